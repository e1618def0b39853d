/- The walks of Compare, sorted, Orient. -/
import Derived.Test.YtdpbihbcggpobaaG3
import Derived.Deep.RegionHeld3
namespace Go.Proofs.Ytdpbihbcggpobaa
open Go.RowKit

/-- What a box leaves: its cells; nothing of before has turned. -/
theorem box_all (w : World) (cs : List Value) (t : TypeId) : (w.alloc (.cells cs.toArray t)).rangeAt w.heap.size 0 cs ∧ Below w.heap.size w (w.alloc (.cells cs.toArray t)) ∧ (w.alloc (.cells cs.toArray t)).heap.size = w.heap.size + 1 := by
  refine ⟨fun j v hj => ?_, (Below.refl _ _).alloc (Nat.le_refl _) _, by simp⟩
  have hh : (w.alloc (.cells cs.toArray t)).heap[w.heap.size]? = some (.cells cs.toArray t (0, 0)) := by
    show (w.heap.push _)[w.heap.size]? = _
    simp
  rw [World.cell?, hh]
  simpa using hj
theorem range_below {w w' : World} {B o : Nat} {cs : List Value} (h : w.rangeAt B o cs) (hB : B < w.heap.size) (hb : Below w.heap.size w w') : w'.rangeAt B o cs :=
  fun j v hj => (hb.cell (p := ⟨B, o + j, none⟩) hB).trans (h j v hj)

def pt (p : Pt) : Value := .agg #[.int .i64 p.1, .int .i64 p.2]
def sg (s : Sg) : Value := .agg #[.int .i64 s.1.1, .int .i64 s.1.2, .int .i64 s.2.1, .int .i64 s.2.2]

set_option maxHeartbeats 2000000 in
theorem compare_any (a b : Pt) (w : World) : Calls Try.prog 41 #[pt a, pt b] w (IntB (cmpP a b) w) := by
  obtain ⟨ax, ay⟩ := a
  obtain ⟨bx, by_⟩ := b
  unfold pt
  dsimp only
  have hf := fun W => first_any (W.alloc (.cells #[.int .i64 ax, .int .i64 bx, .int .i64 ay, .int .i64 by_] 95)) W.heap.size ax bx ay by_ (pts_lit W [(ax, bx), (ay, by_)] 95 _ rfl)
  have HF := Lib.hid hf
  clear hf
  go_enter Try.func41, Try.ntmps41
  go_upto_region 1 with fail
  obtain ⟨r1, b1, z1⟩ := box_all w [.int .i64 ax, .int .i64 ay] 32
  generalize World.alloc w _ = w1 at *
  obtain ⟨r2, b2, z2⟩ := box_all w1 [.int .i64 bx, .int .i64 by_] 32
  generalize World.alloc w1 _ = w2 at *
  have hb2 := b1.trans (b2.mono b1.size)
  generalize hB : w.heap.size = B at *
  generalize hC : w1.heap.size = C at *
  obtain rfl : C = B + 1 := by omega
  have r1' : w2.rangeAt B 0 _ := range_below r1 (by omega) (by rw [hC]; exact b2)
  have c0 : w2.cell? ⟨B, 0, none⟩ = some (.int .i64 ax) := r1' 0 _ rfl
  have c1 : w2.cell? ⟨B, 1, none⟩ = some (.int .i64 ay) := r1' 1 _ rfl
  have d0 : w2.cell? ⟨B + 1, 0, none⟩ = some (.int .i64 bx) := r2 0 _ rfl
  have d1 : w2.cell? ⟨B + 1, 1, none⟩ = some (.int .i64 by_) := r2 1 _ rfl
  have HB2 := Lib.hid hb2
  have HB := Lib.hid hB
  clear r1 b1 z1 r2 b2 z2 r1' hb2 hB hC
  go_wp2_with (go_at_call 65; refine (HF.out _).mono ?_; rintro en w' ⟨rfl, hb⟩; have HBF := Lib.hid hb; clear hb)
  have hfin : IntB (cmpP (ax, ay) (bx, by_)) w (.returned (.int .i64 (cmpP (ax, ay) (bx, by_)))) w' := by
    refine ⟨rfl, ?_⟩
    rw [HB.out]
    have h1 := HB2.out
    exact h1.trans (((Below.refl _ w2).alloc (Nat.le_refl _) _ |>.trans (HBF.out.mono (by simp))).mono (by rw [← HB.out]; exact h1.size))
  go_ret
  exact hfin

/-- A block, whole: its cells, in order. -/
def Blk (w : World) (B : Nat) (cs : List Value) (t : TypeId) : Prop := w.heap[B]? = some (.cells cs.toArray t (0, 0))
theorem Blk.lt {w : World} {B : Nat} {cs : List Value} {t : TypeId} (h : Blk w B cs t) : B < w.heap.size := (Array.getElem?_eq_some_iff.1 h).1
theorem Blk.c {w : World} {B : Nat} {cs : List Value} {t : TypeId} (h : Blk w B cs t) (i : Nat) {v : Value} (hv : cs[i]? = some v) : w.cell? ⟨B, i, none⟩ = some v := by
  have h' : w.heap[B]? = some (.cells cs.toArray t (0, 0)) := h
  rw [World.cell?, h']
  simpa using hv
theorem Blk.f {w : World} {B : Nat} {cs : List Value} {t : TypeId} (h : Blk w B cs t) (i : Nat) : w.frozen? ⟨B, i, none⟩ = false := by
  have h' : w.heap[B]? = some (.cells cs.toArray t (0, 0)) := h
  simp [World.frozen?, h']
theorem Blk.below {w w' : World} {B : Nat} {cs : List Value} {t : TypeId} (h : Blk w B cs t) (hb : Below w.heap.size w w') : Blk w' B cs t := (hb.block B h.lt).trans h
theorem blk_new (w : World) (cs : List Value) (t : TypeId) : Blk (w.alloc (.cells cs.toArray t)) w.heap.size cs t := by
  show (w.heap.push _)[w.heap.size]? = _
  simp
theorem below_new (w : World) (o : Obj) : Below w.heap.size w (w.alloc o) := (Below.refl _ _).alloc (Nat.le_refl _) _
theorem size_new (w : World) (o : Obj) : (w.alloc o).heap.size = w.heap.size + 1 := by simp

def sgCells (s : Sg) : List Value := [.int .i64 s.1.1, .int .i64 s.1.2, .int .i64 s.2.1, .int .i64 s.2.2]
def SgB (s : Sg) (w : World) (e : Ending) (w' : World) : Prop := e = .returned (sg s) ∧ Below w.heap.size w w'

set_option maxHeartbeats 4000000 in
theorem sorted_any (s : Sg) (w : World) : Calls Try.prog 30 #[sg s] w (SgB (sortS s) w) := by
  have hc := fun W => compare_any s.1 s.2 W
  have hs : sortS s = if 0 < cmpP s.1 s.2 then (s.2, s.1) else s := rfl
  obtain ⟨⟨ax, ay⟩, ⟨bx, by_⟩⟩ := s
  unfold SgB
  unfold sg pt IntB at *
  dsimp only at *
  rw [hs]
  clear hs
  generalize cmpP (ax, ay) (bx, by_) = c at *
  have HC := Lib.hid hc
  clear hc
  by_cases h : 0 < c
  all_goals (first | rw [if_pos h] | rw [if_neg h])
  all_goals dsimp only
  all_goals go_enter Try.func30, Try.ntmps30
  all_goals go_upto_region 1 with fail
  all_goals
    have k1 := blk_new w [.int .i64 ax, .int .i64 ay, .int .i64 bx, .int .i64 by_] 34
    have b1 := below_new w (.cells #[.int .i64 ax, .int .i64 ay, .int .i64 bx, .int .i64 by_] 34)
    have z1 := size_new w (.cells #[.int .i64 ax, .int .i64 ay, .int .i64 bx, .int .i64 by_] 34)
    generalize World.alloc w _ = w1 at *
    have k2 := blk_new w1 [.int .i64 0, .int .i64 0, .int .i64 0, .int .i64 0] 34
    have b2 := below_new w1 (.cells #[.int .i64 0, .int .i64 0, .int .i64 0, .int .i64 0] 34)
    have k1' := k1.below b2
    generalize World.alloc w1 _ = w2 at *
    rw [z1] at k2
    have hb := b1.trans (b2.mono b1.size)
    clear k1 b1 z1 b2
    generalize hB : w.heap.size = B at *
    have c0 := k1'.c 0 rfl
    have c1 := k1'.c 1 rfl
    have c2 := k1'.c 2 rfl
    have c3 := k1'.c 3 rfl
    have K1 := Lib.hid k1'
    have K2 := Lib.hid k2
    have HB := Lib.hid hB
    have HW := Lib.hid hb
    clear k1' k2 hB hb
    go_wp2_with (go_at_call 41; refine (HC.out _).mono ?_; rintro en w3 ⟨rfl, hb3⟩; have hk1 := K1.out.below hb3; have hk2 := K2.out.below hb3; have e0 := hk1.c 0 rfl; have ef0 := hk1.f 0; have e1 := hk1.c 1 rfl; have ef1 := hk1.f 1; have e2 := hk1.c 2 rfl; have ef2 := hk1.f 2; have e3 := hk1.c 3 rfl; have ef3 := hk1.f 3; have g0 := hk2.c 0 rfl; have gf0 := hk2.f 0; have g1 := hk2.c 1 rfl; have gf1 := hk2.f 1; have g2 := hk2.c 2 rfl; have gf2 := hk2.f 2; have g3 := hk2.c 3 rfl; have gf3 := hk2.f 3; have H1 := Lib.hid hk1; have H2 := Lib.hid hk2; have HB3 := Lib.hid hb3; clear hb3 hk1 hk2)
  · have hbel : Below w.heap.size w w3 := by rw [HB.out]; exact HW.out.trans (HB3.out.mono (by have := HW.out.size; rw [HB.out] at this; exact this))
    refine bodyPost_ret (v := .agg #[.int .i64 bx, .int .i64 by_, .int .i64 ax, .int .i64 ay]) (by simp [results, Try.results30, go_sem, g0, g1, g2, g3]) rfl ⟨rfl, ?_⟩
    repeat (refine Below.setCell ?_ (by rw [HB.out]; simp) _)
    exact hbel
  · have hbel : Below w.heap.size w w3 := by rw [HB.out]; exact HW.out.trans (HB3.out.mono (by have := HW.out.size; rw [HB.out] at this; exact this))
    refine bodyPost_ret (v := .agg #[.int .i64 ax, .int .i64 ay, .int .i64 bx, .int .i64 by_]) (by simp [results, Try.results30, go_sem, g0, g1, g2, g3]) rfl ⟨rfl, ?_⟩
    repeat (refine Below.setCell ?_ (by rw [HB.out]; simp) _)
    exact hbel

end Go.Proofs.Ytdpbihbcggpobaa
