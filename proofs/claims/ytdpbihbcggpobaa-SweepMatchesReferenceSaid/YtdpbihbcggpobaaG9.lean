/- The walk of Meets. -/
import Derived.Test.YtdpbihbcggpobaaG8
namespace Go.Proofs.Ytdpbihbcggpobaa
open Go.RowKit

/-- Whether two segments are equal, end by end. -/
def sgEq (a b c d a' b' c' d' : Int) : Bool := ptEq a b a' b' && ptEq c d c' d'
theorem sgEq_dec (s t : Sg) : sgEq s.1.1 s.1.2 s.2.1 s.2.2 t.1.1 t.1.2 t.2.1 t.2.2 = decide (s = t) := by
  unfold sgEq
  rw [ptEq_dec, ptEq_dec, Bool.eq_iff_iff, Bool.and_eq_true, decide_eq_true_iff, decide_eq_true_iff, decide_eq_true_iff]
  exact ⟨fun h => Prod.ext h.1 h.2, fun h => by rw [h]; exact ⟨rfl, rfl⟩⟩
theorem guard34 : Try.prog.eqGuardType Try.prog.depth 34 = false := by kernel_rfl
theorem eql34 (a b c d a' b' c' d' : Int) (w : World) : (binOp .eql 34 (.agg #[.int .i64 a, .int .i64 b, .int .i64 c, .int .i64 d]) (.agg #[.int .i64 a', .int .i64 b', .int .i64 c', .int .i64 d'])).run Try.prog w = .ok (.bool (sgEq a b c d a' b' c' d')) w := by
  have u3 := Try.underlying3
  have a3 := Try.isAgg3
  have z3 := Try.sizeOf3
  have u32 := Try.underlying32
  have a32 := Try.isAgg32
  have z32 := Try.sizeOf32
  have hS : Try.prog.underlying 34 = some (.struct (Try.prog.fieldsOf 34)) := by kernel_rfl
  have hp : Try.prog.stoodInHeld 34 = false := by kernel_rfl
  have hS2 : Try.prog.underlying 32 = some (.struct (Try.prog.fieldsOf 32)) := by kernel_rfl
  have hp2 : Try.prog.stoodInHeld 32 = false := by kernel_rfl
  unfold sgEq ptEq
  rw [run_eql_struct, show (10000 : Nat) = 9998 + 1 + 1 from rfl, run_equalIn_agg w (9998 + 1) 34 _ _ hS hp]
  simp only [Program.fieldsOf, Try.underlying34]
  go_simp
  by_cases h1 : a = a' <;> by_cases h2 : b = b' <;> by_cases h3 : c = c' <;> by_cases h4 : d = d' <;> simp [h1, h2, h3, h4]

set_option maxHeartbeats 16000000 in
set_option maxRecDepth 100000 in
theorem meets_far (s t : Sg) (w : World) (h : (nearS s && nearS t) = false) : Calls Try.prog 13 #[sg s, sg t] w (IntB 0 w) := by
  have hN := fun W => near_any (W.alloc (.cells #[.int .i64 s.1.1, .int .i64 s.1.2, .int .i64 s.2.1, .int .i64 s.2.2, .int .i64 t.1.1, .int .i64 t.1.2, .int .i64 t.2.1, .int .i64 t.2.2] 32)) W.heap.size [s.1, s.2, t.1, t.2] (pts_lit W [s.1, s.2, t.1, t.2] 32 _ rfl) (by simp)
  have hall : [s.1, s.2, t.1, t.2].all nearB = (nearS s && nearS t) := by simp [nearS, Bool.and_assoc]
  have hbx : ∀ w1 w2 : World, Blk w2 w.heap.size (sgCells s) 34 → Blk w2 (w.heap.size + 1) (sgCells t) 34 → Below w.heap.size w w2 → SS w w2 w.heap.size s t := fun _ _ h1 h2 h3 => ⟨h1, h2, h3, rfl⟩
  have HBX := Lib.hid hbx
  unfold BoolB at hN
  rw [hall, h] at hN
  clear hall h hbx
  obtain ⟨⟨sax, say⟩, ⟨sbx, sby⟩⟩ := s
  obtain ⟨⟨tax, tay⟩, ⟨tbx, tby⟩⟩ := t
  unfold sg at *
  dsimp only at *
  have HN := Lib.hid hN
  clear hN
  go_enter Try.func13, Try.ntmps13
  go_upto_region 1 with fail
  have k1 := blk_new w [.int .i64 sax, .int .i64 say, .int .i64 sbx, .int .i64 sby] 34
  have b1 := below_new w (.cells #[.int .i64 sax, .int .i64 say, .int .i64 sbx, .int .i64 sby] 34)
  have z1 := size_new w (.cells #[.int .i64 sax, .int .i64 say, .int .i64 sbx, .int .i64 sby] 34)
  generalize World.alloc w _ = w1 at *
  have hb1 := b1
  have hz1 : w1.heap.size = w.heap.size + 1 := z1
  have k2 := blk_new w1 [.int .i64 tax, .int .i64 tay, .int .i64 tbx, .int .i64 tby] 34
  have b2 := below_new w1 (.cells #[.int .i64 tax, .int .i64 tay, .int .i64 tbx, .int .i64 tby] 34)
  have z2 := size_new w1 (.cells #[.int .i64 tax, .int .i64 tay, .int .i64 tbx, .int .i64 tby] 34)
  replace k1 := k1.below b2
  generalize World.alloc w1 _ = w2 at *
  replace k2 := blk_at k2 hz1
  have hb2 := hb1.trans (b2.mono hb1.size)
  have hz2 : w2.heap.size = w.heap.size + 2 := by omega
  have HW := Lib.hid hb2
  have HZ := Lib.hid hz2
  have K1 := Lib.hid k1
  have K2 := Lib.hid k2
  clear b1 z1 hb1 hz1 b2 z2 hb2 hz2
  have hs3 := HBX.out w1 w2 k1 k2 HW.out
  have cs0 := hs3.s.c 0 rfl; have cs1 := hs3.s.c 1 rfl; have cs2 := hs3.s.c 2 rfl; have cs3 := hs3.s.c 3 rfl; have ct0 := hs3.t.c 0 rfl; have ct1 := hs3.t.c 1 rfl; have ct2 := hs3.t.c 2 rfl; have ct3 := hs3.t.c 3 rfl
  have HS3 := Lib.hid hs3
  clear k1 k2 hs3
  go_wp2_with (go_at_call 29; refine (HN.out _).mono ?_; rintro en w4 ⟨rfl, hb⟩; have hs4 := HS3.out.below ((below_new w2 _).trans (hb.mono (by simp))); have HS4 := Lib.hid hs4; clear hb hs4)
  have hfin : IntB 0 w (.returned (.int .i64 0)) w4 := ⟨rfl, HS4.out.b⟩
  go_ret
  exact hfin

/-- What decides whether two segments are taken as such on one line. -/
def onOne (s t : Sg) : Bool := decide (s.1 = s.2 ∨ t.1 = t.2 ∨ (ori s.1 s.2 t.1 = 0 ∧ ori s.1 s.2 t.2 = 0))

theorem ss_drew1 {w0 w : World} {B : Nat} {s t : Sg} (h : SS w0 w B s t) : SS w0 (w.drewN 1) B s t := h.below ⟨rfl, rfl, rfl, Nat.le_refl _, fun _ _ => rfl⟩
theorem ss_cells {w0 w : World} {B : Nat} {a b c d a' b' c' d' : Int} (h : SS w0 w B ((a, b), (c, d)) ((a', b'), (c', d'))) :
    w.cell? ⟨B, 0, none⟩ = some (.int .i64 a) ∧ w.cell? ⟨B, 1, none⟩ = some (.int .i64 b) ∧ w.cell? ⟨B, 2, none⟩ = some (.int .i64 c) ∧ w.cell? ⟨B, 3, none⟩ = some (.int .i64 d) ∧ w.cell? ⟨B + 1, 0, none⟩ = some (.int .i64 a') ∧ w.cell? ⟨B + 1, 1, none⟩ = some (.int .i64 b') ∧ w.cell? ⟨B + 1, 2, none⟩ = some (.int .i64 c') ∧ w.cell? ⟨B + 1, 3, none⟩ = some (.int .i64 d') :=
  ⟨h.s.c 0 rfl, h.s.c 1 rfl, h.s.c 2 rfl, h.s.c 3 rfl, h.t.c 0 rfl, h.t.c 1 rfl, h.t.c 2 rfl, h.t.c 3 rfl⟩

set_option maxHeartbeats 32000000 in
set_option maxRecDepth 100000 in
theorem meets_near (s t : Sg) (w : World) (h : (nearS s && nearS t) = true) : Calls Try.prog 13 #[sg s, sg t] w (IntB (meets2 (sortS s) (sortS t)) w) := by
  have hN := fun W => near_any (W.alloc (.cells #[.int .i64 s.1.1, .int .i64 s.1.2, .int .i64 s.2.1, .int .i64 s.2.2, .int .i64 t.1.1, .int .i64 t.1.2, .int .i64 t.2.1, .int .i64 t.2.2] 32)) W.heap.size [s.1, s.2, t.1, t.2] (pts_lit W [s.1, s.2, t.1, t.2] 32 _ rfl) (by simp)
  have hall : [s.1, s.2, t.1, t.2].all nearB = (nearS s && nearS t) := by simp [nearS, Bool.and_assoc]
  have hbx : ∀ w1 w2 : World, Blk w2 w.heap.size (sgCells s) 34 → Blk w2 (w.heap.size + 1) (sgCells t) 34 → Below w.heap.size w w2 → SS w w2 w.heap.size s t := fun _ _ h1 h2 h3 => ⟨h1, h2, h3, rfl⟩
  have HBX := Lib.hid hbx
  unfold BoolB at hN
  rw [hall, h] at hN
  clear hall h hbx
  have hs1 := fun W => sorted_any s W
  have hs2 := fun W => sorted_any t W
  unfold SgB at hs1 hs2
  have hswa := fun w' (h : SS w w' w.heap.size s t) => (h.puts (sortS s)).putt (sortS t)
  have hswb := fun w' (h : SS w w' w.heap.size s t) => (h.putt (sortS t)).puts (sortS s)
  have HSWA := Lib.hid hswa
  have HSWB := Lib.hid hswb
  have HS1 := Lib.hid hs1
  have HS2 := Lib.hid hs2
  clear hswa hswb hs1 hs2
  generalize sortS s = S at *
  generalize sortS t = T at *
  have ho1 := fun W => orient_any S.1 S.2 T.1 W
  have ho2 := fun W => orient_any S.1 S.2 T.2 W
  have ho3 := fun W => orient_any T.1 T.2 S.1 W
  have ho4 := fun W => orient_any T.1 T.2 S.2 W
  have hon := fun W => online_any S T W
  have heq := eql32
  have heq4 := eql34
  have hg := guard32
  have hg4 := guard34
  have hd1 := sgEq_dec S T
  have hd2 := ptEq_dec S.1 S.2
  have hd3 := ptEq_dec T.1 T.2
  have hm : meets2 S T = if S = T then 4 else if (S.1 = S.2 ∨ T.1 = T.2 ∨ (ori S.1 S.2 T.1 = 0 ∧ ori S.1 S.2 T.2 = 0)) then online S T else
    if 0 < ori S.1 S.2 T.1 * ori S.1 S.2 T.2 ∨ 0 < ori T.1 T.2 S.1 * ori T.1 T.2 S.2 then 0 else if ori S.1 S.2 T.1 * ori S.1 S.2 T.2 < 0 ∧ ori T.1 T.2 S.1 * ori T.1 T.2 S.2 < 0 then 3 else if ori S.1 S.2 T.1 * ori S.1 S.2 T.2 = 0 ∧ ori T.1 T.2 S.1 * ori T.1 T.2 S.2 = 0 then 1 else 2 := rfl
  have bd : ∀ a b c : Pt, -1 ≤ ori a b c ∧ ori a b c ≤ 1 := fun a b c => by
    unfold ori
    split
    · rcases cmpI_cases (crossP a b c) 0 with ⟨_, e⟩ | ⟨_, e⟩ | ⟨_, e⟩ <;> rw [e] <;> omega
    · omega
  have hp : ∀ x y : Int, -1 ≤ x ∧ x ≤ 1 → -1 ≤ y ∧ y ≤ 1 → -1 ≤ x * y ∧ x * y ≤ 1 := fun x y hx hy => by
    have : x = -1 ∨ x = 0 ∨ x = 1 := by omega
    rcases this with rfl | rfl | rfl <;> omega
  obtain ⟨p1, p2⟩ := hp _ _ (bd S.1 S.2 T.1) (bd S.1 S.2 T.2)
  obtain ⟨p3, p4⟩ := hp _ _ (bd T.1 T.2 S.1) (bd T.1 T.2 S.2)
  have HP := Lib.hid (⟨p1, p2, p3, p4⟩ : -1 ≤ ori S.1 S.2 T.1 * ori S.1 S.2 T.2 ∧ ori S.1 S.2 T.1 * ori S.1 S.2 T.2 ≤ 1 ∧ -1 ≤ ori T.1 T.2 S.1 * ori T.1 T.2 S.2 ∧ ori T.1 T.2 S.1 * ori T.1 T.2 S.2 ≤ 1)
  clear bd hp p1 p2 p3 p4
  generalize meets2 S T = r at *
  generalize online S T = l at *
  generalize ori S.1 S.2 T.1 = o1 at *
  generalize ori S.1 S.2 T.2 = o2 at *
  generalize ori T.1 T.2 S.1 = o3 at *
  generalize ori T.1 T.2 S.2 = o4 at *
  have HM : Hid (∀ eq e1 e2 : Bool, eq = decide (S = T) → e1 = decide (S.1 = S.2) → e2 = decide (T.1 = T.2) → r = if eq = true then 4 else if (e1 = true ∨ e2 = true ∨ (o1 = 0 ∧ o2 = 0)) then l else
    if 0 < o1 * o2 ∨ 0 < o3 * o4 then 0 else if o1 * o2 < 0 ∧ o3 * o4 < 0 then 3 else if o1 * o2 = 0 ∧ o3 * o4 = 0 then 1 else 2) := Lib.hid (by
      rintro _ _ _ rfl rfl rfl
      rw [hm]
      simp only [decide_eq_true_iff])
  have hM := HM.out _ _ _ hd1 hd2 hd3
  clear HM hm hd1 hd2 hd3
  obtain ⟨⟨sax, say⟩, ⟨sbx, sby⟩⟩ := s
  obtain ⟨⟨tax, tay⟩, ⟨tbx, tby⟩⟩ := t
  obtain ⟨⟨Sax, Say⟩, ⟨Sbx, Sby⟩⟩ := S
  obtain ⟨⟨Tax, Tay⟩, ⟨Tbx, Tby⟩⟩ := T
  unfold sg pt IntB at *
  dsimp only at *
  have HN := Lib.hid hN
  have HO1 := Lib.hid ho1
  have HO2 := Lib.hid ho2
  have HO3 := Lib.hid ho3
  have HO4 := Lib.hid ho4
  have HON := Lib.hid hon
  have HM := Lib.hid hM
  clear hN ho1 ho2 ho3 ho4 hon hM
  go_enter Try.func13, Try.ntmps13
  go_upto_region 1 with fail
  have k1 := blk_new w [.int .i64 sax, .int .i64 say, .int .i64 sbx, .int .i64 sby] 34
  have b1 := below_new w (.cells #[.int .i64 sax, .int .i64 say, .int .i64 sbx, .int .i64 sby] 34)
  have z1 := size_new w (.cells #[.int .i64 sax, .int .i64 say, .int .i64 sbx, .int .i64 sby] 34)
  generalize World.alloc w _ = w1 at *
  have hb1 := b1
  have hz1 : w1.heap.size = w.heap.size + 1 := z1
  have k2 := blk_new w1 [.int .i64 tax, .int .i64 tay, .int .i64 tbx, .int .i64 tby] 34
  have b2 := below_new w1 (.cells #[.int .i64 tax, .int .i64 tay, .int .i64 tbx, .int .i64 tby] 34)
  have z2 := size_new w1 (.cells #[.int .i64 tax, .int .i64 tay, .int .i64 tbx, .int .i64 tby] 34)
  replace k1 := k1.below b2
  generalize World.alloc w1 _ = w2 at *
  replace k2 := blk_at k2 hz1
  have hb2 := hb1.trans (b2.mono hb1.size)
  have hz2 : w2.heap.size = w.heap.size + 2 := by omega
  have HW := Lib.hid hb2
  have HZ := Lib.hid hz2
  have K1 := Lib.hid k1
  have K2 := Lib.hid k2
  clear b1 z1 hb1 hz1 b2 z2 hb2 hz2
  have hs3 := HBX.out w1 w2 k1 k2 HW.out
  have cs0 := hs3.s.c 0 rfl; have cs1 := hs3.s.c 1 rfl; have cs2 := hs3.s.c 2 rfl; have cs3 := hs3.s.c 3 rfl; have ct0 := hs3.t.c 0 rfl; have ct1 := hs3.t.c 1 rfl; have ct2 := hs3.t.c 2 rfl; have ct3 := hs3.t.c 3 rfl
  have HS3 := Lib.hid hs3
  clear k1 k2 hs3
  go_upto_region 3 with (go_at_call 29; refine (HN.out _).mono ?_; rintro en w4 ⟨rfl, hb⟩; have hs4 := HS3.out.below ((below_new w2 _).trans (hb.mono (by simp))); have ds0 := hs4.s.c 0 rfl; have ds1 := hs4.s.c 1 rfl; have ds2 := hs4.s.c 2 rfl; have ds3 := hs4.s.c 3 rfl; have dt0 := hs4.t.c 0 rfl; have dt1 := hs4.t.c 1 rfl; have dt2 := hs4.t.c 2 rfl; have dt3 := hs4.t.c 3 rfl; have HS4 := Lib.hid hs4; clear hb hs4)
  clear cs0 cs1 cs2 cs3 ct0 ct1 ct2 ct3
  go_cut [] (fun wx => SS w wx w.heap.size ((Sax, Say), (Sbx, Sby)) ((Tax, Tay), (Tbx, Tby)))
  case first =>
    have hs4d : SS w (w4.drewN 1) w.heap.size ((sax, say), (sbx, sby)) ((tax, tay), (tbx, tby)) := HS4.out.below ⟨rfl, rfl, rfl, Nat.le_refl _, fun _ _ => rfl⟩
    have HS4D := Lib.hid hs4d
    clear hs4d
    go_region_with (first
      | (go_at_call 30; (with_reducible refine (HS1.out _).mono ?_); rintro en w5 ⟨rfl, hb⟩; have hs5 : SS w w5 w.heap.size ((sax, say), (sbx, sby)) ((tax, tay), (tbx, tby)) := (by first | exact HS5.out.below hb | exact HS4.out.below hb | exact HS4D.out.below hb); have es0 := hs5.s.c 0 rfl; have es1 := hs5.s.c 1 rfl; have es2 := hs5.s.c 2 rfl; have es3 := hs5.s.c 3 rfl; have et0 := hs5.t.c 0 rfl; have et1 := hs5.t.c 1 rfl; have et2 := hs5.t.c 2 rfl; have et3 := hs5.t.c 3 rfl; have ef0 := hs5.s.f 0; have ef1 := hs5.s.f 1; have ef2 := hs5.s.f 2; have ef3 := hs5.s.f 3; have eg0 := hs5.t.f 0; have eg1 := hs5.t.f 1; have eg2 := hs5.t.f 2; have eg3 := hs5.t.f 3; have HS5 := Lib.hid hs5; clear hb hs5)
      | (go_at_call 30; (with_reducible refine (HS2.out _).mono ?_); rintro en w5 ⟨rfl, hb⟩; have hs5 : SS w w5 w.heap.size ((sax, say), (sbx, sby)) ((tax, tay), (tbx, tby)) := (by first | exact HS5.out.below hb | exact HS4.out.below hb | exact HS4D.out.below hb); have es0 := hs5.s.c 0 rfl; have es1 := hs5.s.c 1 rfl; have es2 := hs5.s.c 2 rfl; have es3 := hs5.s.c 3 rfl; have et0 := hs5.t.c 0 rfl; have et1 := hs5.t.c 1 rfl; have et2 := hs5.t.c 2 rfl; have et3 := hs5.t.c 3 rfl; have ef0 := hs5.s.f 0; have ef1 := hs5.s.f 1; have ef2 := hs5.s.f 2; have ef3 := hs5.s.f 3; have eg0 := hs5.t.f 0; have eg1 := hs5.t.f 1; have eg2 := hs5.t.f 2; have eg3 := hs5.t.f 3; have HS5 := Lib.hid hs5; clear hb hs5))
    all_goals
      have hfin := HSWA.out _ HS5.out
      have HFIN := Lib.hid hfin
      clear hfin
      go_wp2_with fail
      go_meet
      exact HFIN.out
  case rest =>
    have HSC := Lib.hid hcut
    have hsc := hcut
    have fs0 := hsc.s.c 0 rfl; have fs1 := hsc.s.c 1 rfl; have fs2 := hsc.s.c 2 rfl; have fs3 := hsc.s.c 3 rfl; have ft0 := hsc.t.c 0 rfl; have ft1 := hsc.t.c 1 rfl; have ft2 := hsc.t.c 2 rfl; have ft3 := hsc.t.c 3 rfl
    clear hcut hsc HSWA HSWB HBX HS1 HS2 HS3 HS4 HN ds0 ds1 ds2 ds3 dt0 dt1 dt2 dt3
    cases q0 : sgEq Sax Say Sbx Sby Tax Tay Tbx Tby with
    | true =>
      have HV : Hid ((4 : Int) = r) := Lib.hid (by rw [HM.out, q0, if_pos rfl])
      have hfin : IntB r w (.returned (.int .i64 4)) wc := ⟨by rw [HV.out], HSC.out.b⟩
      have HFIN := Lib.hid hfin
      clear hfin
      go_wp2_with fail
      go_ret
      exact HFIN.out
    | false =>
      rw [q0] at HM
      have hm2 := HM.out
      rw [if_neg (by simp)] at hm2
      have HM2 := Lib.hid hm2
      clear hm2 HM
      generalize hcond : decide (ptEq Sax Say Sbx Sby = true ∨ ptEq Tax Tay Tbx Tby = true ∨ (o1 = 0 ∧ o2 = 0)) = cond
      have HC := Lib.hid hcond
      clear hcond
      go_upto_region 6 with fail
      clear q0
      go_cut [28] (fun s28 wx => s28 = .bool cond ∧ SS w wx w.heap.size ((Sax, Say), (Sbx, Sby)) ((Tax, Tay), (Tbx, Tby)))
      case first =>
        cases q1 : ptEq Sax Say Sbx Sby with
        | true =>
          have HV : Hid (true = cond) := Lib.hid (by rw [← HC.out]; simp [q1])
          go_wp2_with fail
          go_meet
          exact ⟨by rw [← HV.out], HSC.out⟩
        | false =>
          cases q2 : ptEq Tax Tay Tbx Tby with
          | true =>
            have HV : Hid (true = cond) := Lib.hid (by rw [← HC.out]; simp [q2])
            go_wp2_with fail
            go_meet
            exact ⟨by rw [← HV.out], HSC.out⟩
          | false =>
            by_cases x1 : o1 = 0
            · have t1 : (o1 == 0) = true := by simpa using x1
              by_cases x2 : o2 = 0
              · have t2 : (o2 == 0) = true := by simpa using x2
                have HV : Hid (true = cond) := Lib.hid (by rw [← HC.out]; simp [x1, x2])
                clear x1 x2
                go_wp2_with (first | (go_at_call 31; (with_reducible refine (HO1.out _).mono ?_); rintro en w6 ⟨rfl, hb⟩; have hs6 := HSC.out.below hb; have is0 := hs6.s.c 0 rfl; have is1 := hs6.s.c 1 rfl; have is2 := hs6.s.c 2 rfl; have is3 := hs6.s.c 3 rfl; have it0 := hs6.t.c 0 rfl; have it1 := hs6.t.c 1 rfl; have it2 := hs6.t.c 2 rfl; have it3 := hs6.t.c 3 rfl; have HS6 := Lib.hid hs6; clear hb hs6) | (go_at_call 31; (with_reducible refine (HO2.out _).mono ?_); rintro en w7 ⟨rfl, hb⟩; have hs7 := HS6.out.below hb; have HS7 := Lib.hid hs7; clear hb hs7))
                go_meet
                exact ⟨by rw [← HV.out], HS7.out⟩
              · have t2 : (o2 == 0) = false := by simpa using x2
                have HV : Hid (false = cond) := Lib.hid (by rw [← HC.out]; simp [q1, q2, x2])
                clear x1 x2
                go_wp2_with (first | (go_at_call 31; (with_reducible refine (HO1.out _).mono ?_); rintro en w6 ⟨rfl, hb⟩; have hs6 := HSC.out.below hb; have is0 := hs6.s.c 0 rfl; have is1 := hs6.s.c 1 rfl; have is2 := hs6.s.c 2 rfl; have is3 := hs6.s.c 3 rfl; have it0 := hs6.t.c 0 rfl; have it1 := hs6.t.c 1 rfl; have it2 := hs6.t.c 2 rfl; have it3 := hs6.t.c 3 rfl; have HS6 := Lib.hid hs6; clear hb hs6) | (go_at_call 31; (with_reducible refine (HO2.out _).mono ?_); rintro en w7 ⟨rfl, hb⟩; have hs7 := HS6.out.below hb; have HS7 := Lib.hid hs7; clear hb hs7))
                go_meet
                exact ⟨by rw [← HV.out], HS7.out⟩
            · have t1 : (o1 == 0) = false := by simpa using x1
              have HV : Hid (false = cond) := Lib.hid (by rw [← HC.out]; simp [q1, q2, x1])
              clear x1
              go_wp2_with (go_at_call 31; (with_reducible refine (HO1.out _).mono ?_); rintro en w6 ⟨rfl, hb⟩; have hs6 := HSC.out.below hb; have is0 := hs6.s.c 0 rfl; have is1 := hs6.s.c 1 rfl; have is2 := hs6.s.c 2 rfl; have is3 := hs6.s.c 3 rfl; have it0 := hs6.t.c 0 rfl; have it1 := hs6.t.c 1 rfl; have it2 := hs6.t.c 2 rfl; have it3 := hs6.t.c 3 rfl; have HS6 := Lib.hid hs6; clear hb hs6)
              go_meet
              exact ⟨by rw [← HV.out], HS6.out⟩
      case rest =>
        obtain ⟨rfl, hs8⟩ := hcut
        have gs0 := hs8.s.c 0 rfl; have gs1 := hs8.s.c 1 rfl; have gs2 := hs8.s.c 2 rfl; have gs3 := hs8.s.c 3 rfl; have gt0 := hs8.t.c 0 rfl; have gt1 := hs8.t.c 1 rfl; have gt2 := hs8.t.c 2 rfl; have gt3 := hs8.t.c 3 rfl
        have HS8 := Lib.hid hs8
        clear hs8 fs0 fs1 fs2 fs3 ft0 ft1 ft2 ft3
        have hm3 := HM2.out
        have hcc := HC.out
        cases cond with
        | true =>
          have HV : Hid (l = r) := Lib.hid (by rw [hm3, if_pos (of_decide_eq_true hcc)])
          clear hm3 hcc
          go_wp2_with (go_at_call 32; refine (HON.out _).mono ?_; rintro en w9 ⟨rfl, hb⟩; have hs9 := HS8.out.below hb; have HS9 := Lib.hid hs9; clear hb hs9)
          have hfin : IntB r w (.returned (.int .i64 l)) w9 := ⟨by rw [HV.out], HS9.out.b⟩
          go_ret
          exact hfin
        | false =>
          rw [if_neg (of_decide_eq_false hcc)] at hm3
          have HM3 := Lib.hid hm3
          clear hm3 hcc
          go_upto_region 8 with fail
          go_cut [5, 6] (fun s5 s6 wx => s5 = .int .i64 o1 ∧ s6 = .int .i64 o2 ∧ SS w wx w.heap.size ((Sax, Say), (Sbx, Sby)) ((Tax, Tay), (Tbx, Tby)))
          case first =>
            have HS8D := Lib.hid (ss_drew1 HS8.out)
            have hs80 := ss_cells HS8.out
            go_region_held3 (fun w' => w'.cell? ⟨w.heap.size, 0, none⟩ = some (.int .i64 Sax) ∧ w'.cell? ⟨w.heap.size, 1, none⟩ = some (.int .i64 Say) ∧ w'.cell? ⟨w.heap.size, 2, none⟩ = some (.int .i64 Sbx) ∧ w'.cell? ⟨w.heap.size, 3, none⟩ = some (.int .i64 Sby) ∧ w'.cell? ⟨w.heap.size + 1, 0, none⟩ = some (.int .i64 Tax) ∧ w'.cell? ⟨w.heap.size + 1, 1, none⟩ = some (.int .i64 Tay) ∧ w'.cell? ⟨w.heap.size + 1, 2, none⟩ = some (.int .i64 Tbx) ∧ w'.cell? ⟨w.heap.size + 1, 3, none⟩ = some (.int .i64 Tby)) (first | exact hs80 | exact ss_cells HS8D.out | exact ss_cells HSb.out | exact ss_cells HSa.out)
              (first
                | (go_at_call 31; (with_reducible refine (HO1.out _).mono ?_); rintro en wa ⟨rfl, hb⟩; have hsa : SS w wa w.heap.size ((Sax, Say), (Sbx, Sby)) ((Tax, Tay), (Tbx, Tby)) := (by first | exact HS8.out.below hb | exact HS8D.out.below hb); have HSa := Lib.hid hsa; clear hb hsa)
                | (go_at_call 31; (with_reducible refine (HO2.out _).mono ?_); rintro en wb ⟨rfl, hb⟩; have hsb := HSa.out.below hb; have HSb := Lib.hid hsb; clear hb hsb))
            go_wp2_with fail
            go_meet
            exact ⟨rfl, rfl, HSb.out⟩
          case rest =>
            obtain ⟨rfl, rfl, hsA⟩ := hcut
            have hs0 := hsA.s.c 0 rfl; have hs1 := hsA.s.c 1 rfl; have hs2 := hsA.s.c 2 rfl; have hs3 := hsA.s.c 3 rfl; have ht0 := hsA.t.c 0 rfl; have ht1 := hsA.t.c 1 rfl; have ht2 := hsA.t.c 2 rfl; have ht3 := hsA.t.c 3 rfl
            have HSA := Lib.hid hsA
            clear hsA gs0 gs1 gs2 gs3 gt0 gt1 gt2 gt3
            go_upto_region 9 with fail
            go_cut [7, 8] (fun s7 s8 wx => s7 = .int .i64 o3 ∧ s8 = .int .i64 o4 ∧ SS w wx w.heap.size ((Sax, Say), (Sbx, Sby)) ((Tax, Tay), (Tbx, Tby)))
            case first =>
              have HSAD := Lib.hid (ss_drew1 HSA.out)
              have hsA0 := ss_cells HSA.out
              go_region_held3 (fun w' => w'.cell? ⟨w.heap.size, 0, none⟩ = some (.int .i64 Sax) ∧ w'.cell? ⟨w.heap.size, 1, none⟩ = some (.int .i64 Say) ∧ w'.cell? ⟨w.heap.size, 2, none⟩ = some (.int .i64 Sbx) ∧ w'.cell? ⟨w.heap.size, 3, none⟩ = some (.int .i64 Sby) ∧ w'.cell? ⟨w.heap.size + 1, 0, none⟩ = some (.int .i64 Tax) ∧ w'.cell? ⟨w.heap.size + 1, 1, none⟩ = some (.int .i64 Tay) ∧ w'.cell? ⟨w.heap.size + 1, 2, none⟩ = some (.int .i64 Tbx) ∧ w'.cell? ⟨w.heap.size + 1, 3, none⟩ = some (.int .i64 Tby)) (first | exact hsA0 | exact ss_cells HSAD.out | exact ss_cells HSd.out | exact ss_cells HSc.out)
                (first
                  | (go_at_call 31; (with_reducible refine (HO3.out _).mono ?_); rintro en wa ⟨rfl, hb⟩; have hsc : SS w wa w.heap.size ((Sax, Say), (Sbx, Sby)) ((Tax, Tay), (Tbx, Tby)) := (by first | exact HSA.out.below hb | exact HSAD.out.below hb); have HSc := Lib.hid hsc; clear hb hsc)
                  | (go_at_call 31; (with_reducible refine (HO4.out _).mono ?_); rintro en wb ⟨rfl, hb⟩; have hsd := HSc.out.below hb; have HSd := Lib.hid hsd; clear hb hsd))
              go_wp2_with fail
              go_meet
              exact ⟨rfl, rfl, HSd.out⟩
            case rest =>
              obtain ⟨rfl, rfl, hsB⟩ := hcut
              have HSB := Lib.hid hsB
              clear hsB hs0 hs1 hs2 hs3 ht0 ht1 ht2 ht3
              obtain ⟨p1, p2, p3, p4⟩ := HP.out
              have HBEL := Lib.hid HSB.out.b
              clear HP HO1 HO2 HO3 HO4 HON HSC HS8 HSA HSB HW
              by_cases y1 : 0 < o1 * o2
              · have t1 : decide (0 < o1 * o2) = true := by simpa using y1
                have HV : Hid ((0 : Int) = r) := Lib.hid (by rw [HM3.out]; rw [if_pos (.inl y1)])
                have hfin : IntB r w (.returned (.int .i64 0)) wc := ⟨by rw [HV.out], HBEL.out⟩
                have HFIN := Lib.hid hfin
                clear hfin HM3 y1
                go_wp2_with fail
                go_ret
                exact HFIN.out
              · have t1 : decide (0 < o1 * o2) = false := by simpa using y1
                by_cases y2 : 0 < o3 * o4
                · have t2 : decide (0 < o3 * o4) = true := by simpa using y2
                  have HV : Hid ((0 : Int) = r) := Lib.hid (by rw [HM3.out]; rw [if_pos (.inr y2)])
                  have hfin : IntB r w (.returned (.int .i64 0)) wc := ⟨by rw [HV.out], HBEL.out⟩
                  have HFIN := Lib.hid hfin
                  clear hfin HM3 y1 y2
                  go_wp2_with fail
                  go_ret
                  exact HFIN.out
                · have t2 : decide (0 < o3 * o4) = false := by simpa using y2
                  have hno : ¬ (0 < o1 * o2 ∨ 0 < o3 * o4) := fun h => h.elim y1 y2
                  have hm4 := HM3.out
                  rw [if_neg hno] at hm4
                  have HM3 := Lib.hid hm4
                  clear hm4 hno
                  by_cases z1 : o1 * o2 = 0
                  · have u1 : decide (o1 * o2 < 0) = false := by simp; omega
                    have v1 : (o1 * o2 == 0) = true := by simpa using z1
                    by_cases z2 : o3 * o4 = 0
                    · have u2 : decide (o3 * o4 < 0) = false := by simp; omega
                      have v2 : (o3 * o4 == 0) = true := by simpa using z2
                      have HV : Hid ((1 : Int) = r) := Lib.hid (by rw [HM3.out]; rw [if_neg (by omega), if_pos ⟨z1, z2⟩])
                      have hfin : IntB r w (.returned (.int .i64 1)) wc := ⟨by rw [HV.out], HBEL.out⟩
                      have HFIN := Lib.hid hfin
                      clear hfin HM3 y1 y2 z1 z2 
                      go_wp2_with fail
                      go_ret
                      exact HFIN.out
                    · have u2 : decide (o3 * o4 < 0) = true := by simp; omega
                      have v2 : (o3 * o4 == 0) = false := by simpa using z2
                      have HV : Hid ((2 : Int) = r) := Lib.hid (by rw [HM3.out]; rw [if_neg (by omega), if_neg (by omega)])
                      have hfin : IntB r w (.returned (.int .i64 2)) wc := ⟨by rw [HV.out], HBEL.out⟩
                      have HFIN := Lib.hid hfin
                      clear hfin HM3 y1 y2 z1 z2
                      go_wp2_with fail
                      go_ret
                      exact HFIN.out
                  · have u1 : decide (o1 * o2 < 0) = true := by simp; omega
                    have v1 : (o1 * o2 == 0) = false := by simpa using z1
                    by_cases z2 : o3 * o4 = 0
                    · have u2 : decide (o3 * o4 < 0) = false := by simp; omega
                      have v2 : (o3 * o4 == 0) = true := by simpa using z2
                      have HV : Hid ((2 : Int) = r) := Lib.hid (by rw [HM3.out]; rw [if_neg (by omega), if_neg (by omega)])
                      have hfin : IntB r w (.returned (.int .i64 2)) wc := ⟨by rw [HV.out], HBEL.out⟩
                      have HFIN := Lib.hid hfin
                      clear hfin HM3 y1 y2 z1 z2
                      go_wp2_with fail
                      go_ret
                      exact HFIN.out
                    · have u2 : decide (o3 * o4 < 0) = true := by simp; omega
                      have v2 : (o3 * o4 == 0) = false := by simpa using z2
                      have HV : Hid ((3 : Int) = r) := Lib.hid (by rw [HM3.out]; rw [if_pos ⟨by omega, by omega⟩])
                      have hfin : IntB r w (.returned (.int .i64 3)) wc := ⟨by rw [HV.out], HBEL.out⟩
                      have HFIN := Lib.hid hfin
                      clear hfin HM3 y1 y2 z1 z2
                      go_wp2_with fail
                      go_ret
                      exact HFIN.out


/-- Meets. -/
theorem meets_any (s t : Sg) (w : World) : Calls Try.prog 13 #[sg s, sg t] w (IntB (meets s t) w) := by
  unfold meets
  cases h : (nearS s && nearS t) with
  | false => exact meets_far s t w h
  | true => exact meets_near s t w h

end Go.Proofs.Ytdpbihbcggpobaa
