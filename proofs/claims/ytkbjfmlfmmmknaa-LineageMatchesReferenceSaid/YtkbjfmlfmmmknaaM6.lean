/- The walk of the reference's Follow. -/
import Derived.Test.YtkbjfmlfmmmknaaM5
import Derived.Test.YtkbjfmlfmmmknaaA1
import Derived.StillTailTactics
namespace Go.Proofs.Ytkbjfmlfmmmknaa
open Go.RowKit Go.Maps Go.WideMaps Go.ChangeMaps Go.Sort

theorem RLin.turn {w w' : World} {y : Nat} {vp vm : Value} {r : RS} {F : Nat → Prop} (h : RLin w y vp vm r) (ht : Turn F w w') (hy : ¬ F y) (hp : ∀ g, vp.ownBlock = some g → ¬ F g) (hm : ∀ g, vm.ownBlock = some g → ¬ F g) : RLin w' y vp vm r :=
  ⟨(ht.block y (YAt.lt (a := vp) (b := vm) h.yc) hy).trans h.yc, h.p.turn ht hp, h.m.turn ht hm, h.py, h.my⟩
theorem RLin.below {w w' : World} {y : Nat} {vp vm : Value} {r : RS} (h : RLin w y vp vm r) (hb : Below w.heap.size w w') : RLin w' y vp vm r :=
  h.turn (F := fun _ => False) (Turn.of_below hb) (fun h => h) (fun _ _ h => h) (fun _ _ h => h)
theorem RLin.drewN {w : World} {y : Nat} {vp vm : Value} {r : RS} (h : RLin w y vp vm r) (n : Nat) : RLin (w.drewN n) y vp vm r := h.below (below_drewN w n)
theorem RChange.trans {w w1 w2 : World} {y : Nat} {vp vm vp1 vm1 : Value} {r2 : RS} (ht : Turn (fun i => i = y) w w1) (fp : Fresh w vp vp1) (fm : Fresh w vm vm1) (h : RChange w1 y vp1 vm1 r2 w2) : RChange w y vp vm r2 w2 := by
  obtain ⟨vp2, vm2, h1, h2, h3, h4⟩ := h
  exact ⟨vp2, vm2, h1, ht.trans h2, fp.trans h3 ht.size, fm.trans h4 ht.size⟩

/-- The cells of the edit, boxed at B. -/
structure REdAt (w : World) (B : Nat) (op : Int) (aid aother aobj : ByteArray) : Prop where
  lt : B < w.heap.size
  a0 : w.cell? ⟨B, 0, none⟩ = some (.int .i64 op)
  a1 : w.cell? ⟨B, 1, none⟩ = some (.string aid)
  a2 : w.cell? ⟨B, 2, none⟩ = some (.string aother)
  a9 : w.cell? ⟨B, 9, none⟩ = some (.string aobj)
theorem REdAt.turn {w w' : World} {B : Nat} {op : Int} {aid aother aobj : ByteArray} {F : Nat → Prop} (h : REdAt w B op aid aother aobj) (ht : Turn F w w') (hF : ¬ F B) : REdAt w' B op aid aother aobj := by
  have k : ∀ i, w'.cell? ⟨B, i, none⟩ = w.cell? ⟨B, i, none⟩ := fun i => World.cell?_of_block (a := ⟨B, i, none⟩) (ht.block B h.lt hF)
  exact ⟨Nat.lt_of_lt_of_le h.lt ht.size, (k 0).trans h.a0, (k 1).trans h.a1, (k 2).trans h.a2, (k 9).trans h.a9⟩
theorem ed_boxed (w : World) (op : Int) (aid aother aobj : ByteArray) (c3 c4 c5 c6 c7 c8 c10 c11 c12 c13 c14 : Value) :
    REdAt (w.alloc (.cells (#[.int .i64 op, .string aid, .string aother, c3, c4, c5, c6, c7, c8, .string aobj, c10, c11, c12, c13, c14]) 38)) w.heap.size op aid aother aobj := by
  have hra := boxed_range w [.int .i64 op, .string aid, .string aother, c3, c4, c5, c6, c7, c8, .string aobj, c10, c11, c12, c13, c14] 38
  exact ⟨by simp, hra 0 _ rfl, hra 1 _ rfl, hra 2 _ rfl, hra 9 _ rfl⟩

def RFollowPost (w : World) (y : Nat) (vp vm : Value) (c : Int) (r' : RS) (en : Ending) (w' : World) : Prop := en = .returned (.int .i64 c) ∧ RChange w y vp vm r' w'

/-- Where the walk stands behind the box: nothing of before has turned. -/
structure Boxed (w w0 : World) (y B : Nat) (vp vm : Value) (r : RS) (op : Int) (aid aother aobj : ByteArray) : Prop where
  ed : REdAt w0 B op aid aother aobj
  rl : RLin w0 y vp vm r
  tn : Turn (fun _ => False) w w0
  ne : B ≠ y
theorem boxed_all {w : World} {y : Nat} {vp vm : Value} {r : RS} (h : RLin w y vp vm r) (op : Int) (aid aother aobj : ByteArray) (c3 c4 c5 c6 c7 c8 c10 c11 c12 c13 c14 : Value) :
    Boxed w (w.alloc (.cells (#[.int .i64 op, .string aid, .string aother, c3, c4, c5, c6, c7, c8, .string aobj, c10, c11, c12, c13, c14]) 38)) y w.heap.size vp vm r op aid aother aobj :=
  ⟨ed_boxed w op aid aother aobj c3 c4 c5 c6 c7 c8 c10 c11 c12 c13 c14, h.below (boxed_below _ _), Turn.of_below (boxed_below _ _), by have := YAt.lt (a := vp) (b := vm) h.yc; omega⟩
theorem Boxed.done {w w0 w' : World} {y B : Nat} {vp vm : Value} {r r' : RS} {op : Int} {aid aother aobj : ByteArray} (h : Boxed w w0 y B vp vm r op aid aother aobj) (k : RChange w0 y vp vm r' w') : RChange w y vp vm r' w' :=
  RChange.trans (h.tn.mono (fun _ h => h.elim)) (.inl rfl) (.inl rfl) k

theorem drewN_turn (w : World) (n : Nat) : Turn (fun _ => False) w (w.drewN n) := Turn.of_below (below_drewN w n)
theorem RChange.drewN {w w' : World} {y : Nat} {vp vm : Value} {r' : RS} {n : Nat} (h : RChange (w.drewN n) y vp vm r' w') : RChange w y vp vm r' w' :=
  RChange.trans ((drewN_turn w n).mono (fun _ h => h.elim)) (.inl rfl) (.inl rfl) h

theorem pair_is (w : World) (y : Nat) (vp vm : Value) (r : RS) (a b : ByteArray) (c : Bool) (h : RLin w y vp vm r) (hc : r.pair a.data.toList b.data.toList = c) :
    Calls Try.prog 32 #[.pointer (some ⟨y, 0, none⟩), .string a, .string b] w fun en w' => en = .returned (.bool c) ∧ w = w' := by
  refine (pair_any w y vp vm r a b h).mono ?_
  rintro en w' ⟨rfl, hw⟩
  exact ⟨by rw [hc], hw⟩
theorem pair_q (w : World) (n : Nat) (y : Nat) (vp vm : Value) (r : RS) (a b : ByteArray) (c : Bool) (h : RLin w y vp vm r) (hc : r.pair a.data.toList b.data.toList = c) :
    Calls Try.prog 32 #[.pointer (some ⟨y, 0, none⟩), .string a, .string b] (w.drewN n) fun en w' => en = .returned (.bool c) ∧ w' = w.drewN n :=
  (pair_is _ y vp vm r a b c (h.drewN n) hc).mono fun _ _ ⟨he, hw⟩ => ⟨he, hw.symm⟩
theorem in_q (w : World) (n : Nat) (v : Value) (ks : List Key) (s : ByteArray) (c : Bool) (h : SL w v (ks.map toB)) (hc : decide (s.data.toList ∈ ks) = c) :
    Calls Try.prog 24 #[v, .string s] (w.drewN n) fun en w' => en = .returned (.bool c) ∧ w' = w.drewN n := by
  have h' : SL (w.drewN n) v (ks.map toB) := h.turn (drewN_turn w n) (fun _ _ h => h)
  cases c with
  | true => exact (in_yes _ v ks s h' (by simpa using hc)).mono fun _ _ ⟨he, hw⟩ => ⟨he, hw.symm⟩
  | false => exact (in_no _ v ks s h' (by simpa using hc)).mono fun _ _ ⟨he, hw⟩ => ⟨he, hw.symm⟩

set_option maxHeartbeats 4000000 in
set_option maxRecDepth 100000 in
theorem rfollow_low (w : World) (y : Nat) (vp vm : Value) (r : RS) (h : RLin w y vp vm r) (hl1 : r.ps.length ≤ 400000) (hl2 : r.ms.length ≤ 400000) (op : Int) (aid aother aobj : ByteArray) (c3 c4 c5 c6 c7 c8 c10 c11 c12 c13 c14 : Value) (hop : op < 1) :
    Calls Try.prog 15 #[.pointer (some ⟨y, 0, none⟩), .agg #[.int .i64 op, .string aid, .string aother, c3, c4, c5, c6, c7, c8, .string aobj, c10, c11, c12, c13, c14]] w (RFollowPost w y vp vm 1 r) := by
  have hbx := boxed_all h op aid aother aobj c3 c4 c5 c6 c7 c8 c10 c11 c12 c13 c14
  clear h
  go_enter Try.func15, Try.ntmps15
  go_upto_region 1 with fail
  generalize World.alloc w _ = w0 at *
  generalize w.heap.size = B at *
  have a0 := hbx.ed.a0
  have a1 := hbx.ed.a1
  have a2 := hbx.ed.a2
  have a9 := hbx.ed.a9
  have d0 := hbx.rl.c0
  have d1 := hbx.rl.c1
  have hylt := YAt.lt (a := vp) (b := vm) hbx.rl.yc
  have HB := Lib.hid hbx
  clear hbx
  have e1 : (op == 6) = false := beq_eq_false_iff_ne.2 (by omega)
  have e2 : (op == 7) = false := beq_eq_false_iff_ne.2 (by omega)
  have e3 : decide (op < 1) = true := by simpa using hop
  have HFIN : Hid (RFollowPost w y vp vm 1 r (.returned (.int .i64 1)) w0) := Lib.hid ⟨rfl, HB.out.done (RChange.refl HB.out.rl)⟩
  clear hop
  go_wp2_with fail
  go_ret
  exact HFIN.out

set_option maxHeartbeats 4000000 in
set_option maxRecDepth 100000 in
theorem rfollow_high (w : World) (y : Nat) (vp vm : Value) (r : RS) (h : RLin w y vp vm r) (hl1 : r.ps.length ≤ 400000) (hl2 : r.ms.length ≤ 400000) (op : Int) (aid aother aobj : ByteArray) (c3 c4 c5 c6 c7 c8 c10 c11 c12 c13 c14 : Value) (hop : 7 < op) :
    Calls Try.prog 15 #[.pointer (some ⟨y, 0, none⟩), .agg #[.int .i64 op, .string aid, .string aother, c3, c4, c5, c6, c7, c8, .string aobj, c10, c11, c12, c13, c14]] w (RFollowPost w y vp vm 1 r) := by
  have hbx := boxed_all h op aid aother aobj c3 c4 c5 c6 c7 c8 c10 c11 c12 c13 c14
  clear h
  go_enter Try.func15, Try.ntmps15
  go_upto_region 1 with fail
  generalize World.alloc w _ = w0 at *
  generalize w.heap.size = B at *
  have a0 := hbx.ed.a0
  have a1 := hbx.ed.a1
  have a2 := hbx.ed.a2
  have a9 := hbx.ed.a9
  have d0 := hbx.rl.c0
  have d1 := hbx.rl.c1
  have hylt := YAt.lt (a := vp) (b := vm) hbx.rl.yc
  have HB := Lib.hid hbx
  clear hbx
  have e1 : (op == 6) = false := beq_eq_false_iff_ne.2 (by omega)
  have e2 : (op == 7) = false := beq_eq_false_iff_ne.2 (by omega)
  have e3 : decide (op < 1) = false := by simp; omega
  have e4 : decide (7 < op) = true := by simpa using hop
  have HFIN : Hid (RFollowPost w y vp vm 1 r (.returned (.int .i64 1)) w0) := Lib.hid ⟨rfl, HB.out.done (RChange.refl HB.out.rl)⟩
  clear hop
  go_wp2_with fail
  go_ret
  exact HFIN.out

set_option maxHeartbeats 4000000 in
set_option maxRecDepth 100000 in
theorem rfollow_eq6 (w : World) (y : Nat) (vp vm : Value) (r : RS) (h : RLin w y vp vm r) (hl1 : r.ps.length ≤ 400000) (hl2 : r.ms.length ≤ 400000) (aid aobj : ByteArray) (c3 c4 c5 c6 c7 c8 c10 c11 c12 c13 c14 : Value) :
    Calls Try.prog 15 #[.pointer (some ⟨y, 0, none⟩), .agg #[.int .i64 6, .string aid, .string aid, c3, c4, c5, c6, c7, c8, .string aobj, c10, c11, c12, c13, c14]] w (RFollowPost w y vp vm 1 r) := by
  have hbx := boxed_all h (6) aid aid aobj c3 c4 c5 c6 c7 c8 c10 c11 c12 c13 c14
  clear h
  go_enter Try.func15, Try.ntmps15
  go_upto_region 1 with fail
  generalize World.alloc w _ = w0 at *
  generalize w.heap.size = B at *
  have a0 := hbx.ed.a0
  have a1 := hbx.ed.a1
  have a2 := hbx.ed.a2
  have a9 := hbx.ed.a9
  have d0 := hbx.rl.c0
  have d1 := hbx.rl.c1
  have hylt := YAt.lt (a := vp) (b := vm) hbx.rl.yc
  have HB := Lib.hid hbx
  clear hbx
  have e0 : (aid.toList == aid.toList) = true := by simp
  have HFIN : Hid (RFollowPost w y vp vm 1 _ (.returned (.int .i64 1)) (w0)) := Lib.hid ⟨rfl, HB.out.done (RChange.refl HB.out.rl)⟩
  go_wp2_with fail
  go_ret
  exact HFIN.out

set_option maxHeartbeats 4000000 in
set_option maxRecDepth 100000 in
theorem rfollow_eq7 (w : World) (y : Nat) (vp vm : Value) (r : RS) (h : RLin w y vp vm r) (hl1 : r.ps.length ≤ 400000) (hl2 : r.ms.length ≤ 400000) (aid aobj : ByteArray) (c3 c4 c5 c6 c7 c8 c10 c11 c12 c13 c14 : Value) :
    Calls Try.prog 15 #[.pointer (some ⟨y, 0, none⟩), .agg #[.int .i64 7, .string aid, .string aid, c3, c4, c5, c6, c7, c8, .string aobj, c10, c11, c12, c13, c14]] w (RFollowPost w y vp vm 1 r) := by
  have hbx := boxed_all h (7) aid aid aobj c3 c4 c5 c6 c7 c8 c10 c11 c12 c13 c14
  clear h
  go_enter Try.func15, Try.ntmps15
  go_upto_region 1 with fail
  generalize World.alloc w _ = w0 at *
  generalize w.heap.size = B at *
  have a0 := hbx.ed.a0
  have a1 := hbx.ed.a1
  have a2 := hbx.ed.a2
  have a9 := hbx.ed.a9
  have d0 := hbx.rl.c0
  have d1 := hbx.rl.c1
  have hylt := YAt.lt (a := vp) (b := vm) hbx.rl.yc
  have HB := Lib.hid hbx
  clear hbx
  have e0 : (aid.toList == aid.toList) = true := by simp
  have HFIN : Hid (RFollowPost w y vp vm 1 _ (.returned (.int .i64 1)) (w0)) := Lib.hid ⟨rfl, HB.out.done (RChange.refl HB.out.rl)⟩
  go_wp2_with fail
  go_ret
  exact HFIN.out

set_option maxHeartbeats 4000000 in
set_option maxRecDepth 100000 in
theorem rfollow_none2 (w : World) (y : Nat) (vp vm : Value) (r : RS) (h : RLin w y vp vm r) (hl1 : r.ps.length ≤ 400000) (hl2 : r.ms.length ≤ 400000) (aid aother aobj : ByteArray) (c3 c4 c5 c6 c7 c8 c10 c11 c12 c13 c14 : Value) (hp : r.pair aid.data.toList aid.data.toList = false) :
    Calls Try.prog 15 #[.pointer (some ⟨y, 0, none⟩), .agg #[.int .i64 2, .string aid, .string aother, c3, c4, c5, c6, c7, c8, .string aobj, c10, c11, c12, c13, c14]] w (RFollowPost w y vp vm 11 r) := by
  have hbx := boxed_all h (2) aid aother aobj c3 c4 c5 c6 c7 c8 c10 c11 c12 c13 c14
  clear h
  go_enter Try.func15, Try.ntmps15
  go_upto_region 1 with fail
  generalize World.alloc w _ = w0 at *
  generalize w.heap.size = B at *
  have a0 := hbx.ed.a0
  have a1 := hbx.ed.a1
  have a2 := hbx.ed.a2
  have a9 := hbx.ed.a9
  have d0 := hbx.rl.c0
  have d1 := hbx.rl.c1
  have hylt := YAt.lt (a := vp) (b := vm) hbx.rl.yc
  have HB := Lib.hid hbx
  clear hbx
  have HP := Lib.hid hp
  clear hp
  have HFIN : Hid (RFollowPost w y vp vm 11 _ (.returned (.int .i64 11)) (w0)) := Lib.hid ⟨rfl, HB.out.done (RChange.refl HB.out.rl)⟩
  go_wp2_with (go_at_call 32; (with_reducible refine (pair_is w0 y vp vm r aid aid false HB.out.rl HP.out).mono ?_); rintro en w' ⟨rfl, rfl⟩)
  go_ret
  exact HFIN.out

set_option maxHeartbeats 4000000 in
set_option maxRecDepth 100000 in
theorem rfollow_none3 (w : World) (y : Nat) (vp vm : Value) (r : RS) (h : RLin w y vp vm r) (hl1 : r.ps.length ≤ 400000) (hl2 : r.ms.length ≤ 400000) (aid aother aobj : ByteArray) (c3 c4 c5 c6 c7 c8 c10 c11 c12 c13 c14 : Value) (hp : r.pair aid.data.toList aid.data.toList = false) :
    Calls Try.prog 15 #[.pointer (some ⟨y, 0, none⟩), .agg #[.int .i64 3, .string aid, .string aother, c3, c4, c5, c6, c7, c8, .string aobj, c10, c11, c12, c13, c14]] w (RFollowPost w y vp vm 11 r) := by
  have hbx := boxed_all h (3) aid aother aobj c3 c4 c5 c6 c7 c8 c10 c11 c12 c13 c14
  clear h
  go_enter Try.func15, Try.ntmps15
  go_upto_region 1 with fail
  generalize World.alloc w _ = w0 at *
  generalize w.heap.size = B at *
  have a0 := hbx.ed.a0
  have a1 := hbx.ed.a1
  have a2 := hbx.ed.a2
  have a9 := hbx.ed.a9
  have d0 := hbx.rl.c0
  have d1 := hbx.rl.c1
  have hylt := YAt.lt (a := vp) (b := vm) hbx.rl.yc
  have HB := Lib.hid hbx
  clear hbx
  have HP := Lib.hid hp
  clear hp
  have HFIN : Hid (RFollowPost w y vp vm 11 _ (.returned (.int .i64 11)) (w0)) := Lib.hid ⟨rfl, HB.out.done (RChange.refl HB.out.rl)⟩
  go_wp2_with (go_at_call 32; (with_reducible refine (pair_is w0 y vp vm r aid aid false HB.out.rl HP.out).mono ?_); rintro en w' ⟨rfl, rfl⟩)
  go_ret
  exact HFIN.out

set_option maxHeartbeats 4000000 in
set_option maxRecDepth 100000 in
theorem rfollow_none4 (w : World) (y : Nat) (vp vm : Value) (r : RS) (h : RLin w y vp vm r) (hl1 : r.ps.length ≤ 400000) (hl2 : r.ms.length ≤ 400000) (aid aother aobj : ByteArray) (c3 c4 c5 c6 c7 c8 c10 c11 c12 c13 c14 : Value) (hp : r.pair aid.data.toList aid.data.toList = false) :
    Calls Try.prog 15 #[.pointer (some ⟨y, 0, none⟩), .agg #[.int .i64 4, .string aid, .string aother, c3, c4, c5, c6, c7, c8, .string aobj, c10, c11, c12, c13, c14]] w (RFollowPost w y vp vm 11 r) := by
  have hbx := boxed_all h (4) aid aother aobj c3 c4 c5 c6 c7 c8 c10 c11 c12 c13 c14
  clear h
  go_enter Try.func15, Try.ntmps15
  go_upto_region 1 with fail
  generalize World.alloc w _ = w0 at *
  generalize w.heap.size = B at *
  have a0 := hbx.ed.a0
  have a1 := hbx.ed.a1
  have a2 := hbx.ed.a2
  have a9 := hbx.ed.a9
  have d0 := hbx.rl.c0
  have d1 := hbx.rl.c1
  have hylt := YAt.lt (a := vp) (b := vm) hbx.rl.yc
  have HB := Lib.hid hbx
  clear hbx
  have HP := Lib.hid hp
  clear hp
  have HFIN : Hid (RFollowPost w y vp vm 11 _ (.returned (.int .i64 11)) (w0)) := Lib.hid ⟨rfl, HB.out.done (RChange.refl HB.out.rl)⟩
  go_wp2_with (go_at_call 32; (with_reducible refine (pair_is w0 y vp vm r aid aid false HB.out.rl HP.out).mono ?_); rintro en w' ⟨rfl, rfl⟩)
  go_ret
  exact HFIN.out

set_option maxHeartbeats 4000000 in
set_option maxRecDepth 100000 in
theorem rfollow_none5 (w : World) (y : Nat) (vp vm : Value) (r : RS) (h : RLin w y vp vm r) (hl1 : r.ps.length ≤ 400000) (hl2 : r.ms.length ≤ 400000) (aid aother aobj : ByteArray) (c3 c4 c5 c6 c7 c8 c10 c11 c12 c13 c14 : Value) (hp : r.pair aid.data.toList aid.data.toList = false) :
    Calls Try.prog 15 #[.pointer (some ⟨y, 0, none⟩), .agg #[.int .i64 5, .string aid, .string aother, c3, c4, c5, c6, c7, c8, .string aobj, c10, c11, c12, c13, c14]] w (RFollowPost w y vp vm 11 r) := by
  have hbx := boxed_all h (5) aid aother aobj c3 c4 c5 c6 c7 c8 c10 c11 c12 c13 c14
  clear h
  go_enter Try.func15, Try.ntmps15
  go_upto_region 1 with fail
  generalize World.alloc w _ = w0 at *
  generalize w.heap.size = B at *
  have a0 := hbx.ed.a0
  have a1 := hbx.ed.a1
  have a2 := hbx.ed.a2
  have a9 := hbx.ed.a9
  have d0 := hbx.rl.c0
  have d1 := hbx.rl.c1
  have hylt := YAt.lt (a := vp) (b := vm) hbx.rl.yc
  have HB := Lib.hid hbx
  clear hbx
  have HP := Lib.hid hp
  clear hp
  have HFIN : Hid (RFollowPost w y vp vm 11 _ (.returned (.int .i64 11)) (w0)) := Lib.hid ⟨rfl, HB.out.done (RChange.refl HB.out.rl)⟩
  go_wp2_with (go_at_call 32; (with_reducible refine (pair_is w0 y vp vm r aid aid false HB.out.rl HP.out).mono ?_); rintro en w' ⟨rfl, rfl⟩)
  go_ret
  exact HFIN.out

set_option maxHeartbeats 4000000 in
set_option maxRecDepth 100000 in
theorem rfollow_none6 (w : World) (y : Nat) (vp vm : Value) (r : RS) (h : RLin w y vp vm r) (hl1 : r.ps.length ≤ 400000) (hl2 : r.ms.length ≤ 400000) (aid aother aobj : ByteArray) (c3 c4 c5 c6 c7 c8 c10 c11 c12 c13 c14 : Value) (hne : aid ≠ aother) (hp : r.pair aid.data.toList aid.data.toList = false) :
    Calls Try.prog 15 #[.pointer (some ⟨y, 0, none⟩), .agg #[.int .i64 6, .string aid, .string aother, c3, c4, c5, c6, c7, c8, .string aobj, c10, c11, c12, c13, c14]] w (RFollowPost w y vp vm 11 r) := by
  have hbx := boxed_all h (6) aid aother aobj c3 c4 c5 c6 c7 c8 c10 c11 c12 c13 c14
  clear h
  go_enter Try.func15, Try.ntmps15
  go_upto_region 1 with fail
  generalize World.alloc w _ = w0 at *
  generalize w.heap.size = B at *
  have a0 := hbx.ed.a0
  have a1 := hbx.ed.a1
  have a2 := hbx.ed.a2
  have a9 := hbx.ed.a9
  have d0 := hbx.rl.c0
  have d1 := hbx.rl.c1
  have hylt := YAt.lt (a := vp) (b := vm) hbx.rl.yc
  have HB := Lib.hid hbx
  clear hbx
  have e0 : (aid.toList == aother.toList) = false := beq_eq_false_iff_ne.2 (fun e => hne (str_eq (by simpa only [ByteArray.toList_eq] using e)))
  clear hne
  have HP := Lib.hid hp
  clear hp
  have HFIN : Hid (RFollowPost w y vp vm 11 _ (.returned (.int .i64 11)) (w0)) := Lib.hid ⟨rfl, HB.out.done (RChange.refl HB.out.rl)⟩
  go_wp2_with (go_at_call 32; (with_reducible refine (pair_is w0 y vp vm r aid aid false HB.out.rl HP.out).mono ?_); rintro en w' ⟨rfl, rfl⟩)
  go_ret
  exact HFIN.out

set_option maxHeartbeats 4000000 in
set_option maxRecDepth 100000 in
theorem rfollow_none7 (w : World) (y : Nat) (vp vm : Value) (r : RS) (h : RLin w y vp vm r) (hl1 : r.ps.length ≤ 400000) (hl2 : r.ms.length ≤ 400000) (aid aother aobj : ByteArray) (c3 c4 c5 c6 c7 c8 c10 c11 c12 c13 c14 : Value) (hne : aid ≠ aother) (hp : r.pair aid.data.toList aid.data.toList = false) :
    Calls Try.prog 15 #[.pointer (some ⟨y, 0, none⟩), .agg #[.int .i64 7, .string aid, .string aother, c3, c4, c5, c6, c7, c8, .string aobj, c10, c11, c12, c13, c14]] w (RFollowPost w y vp vm 11 r) := by
  have hbx := boxed_all h (7) aid aother aobj c3 c4 c5 c6 c7 c8 c10 c11 c12 c13 c14
  clear h
  go_enter Try.func15, Try.ntmps15
  go_upto_region 1 with fail
  generalize World.alloc w _ = w0 at *
  generalize w.heap.size = B at *
  have a0 := hbx.ed.a0
  have a1 := hbx.ed.a1
  have a2 := hbx.ed.a2
  have a9 := hbx.ed.a9
  have d0 := hbx.rl.c0
  have d1 := hbx.rl.c1
  have hylt := YAt.lt (a := vp) (b := vm) hbx.rl.yc
  have HB := Lib.hid hbx
  clear hbx
  have e0 : (aid.toList == aother.toList) = false := beq_eq_false_iff_ne.2 (fun e => hne (str_eq (by simpa only [ByteArray.toList_eq] using e)))
  clear hne
  have HP := Lib.hid hp
  clear hp
  have HFIN : Hid (RFollowPost w y vp vm 11 _ (.returned (.int .i64 11)) (w0)) := Lib.hid ⟨rfl, HB.out.done (RChange.refl HB.out.rl)⟩
  go_wp2_with (go_at_call 32; (with_reducible refine (pair_is w0 y vp vm r aid aid false HB.out.rl HP.out).mono ?_); rintro en w' ⟨rfl, rfl⟩)
  go_ret
  exact HFIN.out

set_option maxHeartbeats 4000000 in
set_option maxRecDepth 100000 in
theorem rfollow_other7 (w : World) (y : Nat) (vp vm : Value) (r : RS) (h : RLin w y vp vm r) (hl1 : r.ps.length ≤ 400000) (hl2 : r.ms.length ≤ 400000) (aid aother aobj : ByteArray) (c3 c4 c5 c6 c7 c8 c10 c11 c12 c13 c14 : Value) (hne : aid ≠ aother) (hp : r.pair aid.data.toList aid.data.toList = true) (hq : r.pair aother.data.toList aother.data.toList = false) :
    Calls Try.prog 15 #[.pointer (some ⟨y, 0, none⟩), .agg #[.int .i64 7, .string aid, .string aother, c3, c4, c5, c6, c7, c8, .string aobj, c10, c11, c12, c13, c14]] w (RFollowPost w y vp vm 11 r) := by
  have hbx := boxed_all h (7) aid aother aobj c3 c4 c5 c6 c7 c8 c10 c11 c12 c13 c14
  clear h
  go_enter Try.func15, Try.ntmps15
  go_upto_region 1 with fail
  generalize World.alloc w _ = w0 at *
  generalize w.heap.size = B at *
  have a0 := hbx.ed.a0
  have a1 := hbx.ed.a1
  have a2 := hbx.ed.a2
  have a9 := hbx.ed.a9
  have d0 := hbx.rl.c0
  have d1 := hbx.rl.c1
  have hylt := YAt.lt (a := vp) (b := vm) hbx.rl.yc
  have HB := Lib.hid hbx
  clear hbx
  have e0 : (aid.toList == aother.toList) = false := beq_eq_false_iff_ne.2 (fun e => hne (str_eq (by simpa only [ByteArray.toList_eq] using e)))
  clear hne
  have HP := Lib.hid hp
  have HQ := Lib.hid hq
  clear hp hq
  have HFIN : Hid (RFollowPost w y vp vm 11 _ (.returned (.int .i64 11)) (w0)) := Lib.hid ⟨rfl, HB.out.done (RChange.refl HB.out.rl)⟩
  go_wp2_with (first | (go_at_call 32; (with_reducible refine (pair_is w0 y vp vm r aid aid true HB.out.rl HP.out).mono ?_); rintro en w' ⟨rfl, rfl⟩) | (go_at_call 32; (with_reducible refine (pair_is w0 y vp vm r aother aother false HB.out.rl HQ.out).mono ?_); rintro en w' ⟨rfl, rfl⟩))
  go_ret
  exact HFIN.out

set_option maxHeartbeats 4000000 in
set_option maxRecDepth 100000 in
theorem rfollow_twice1 (w : World) (y : Nat) (vp vm : Value) (r : RS) (h : RLin w y vp vm r) (hl1 : r.ps.length ≤ 400000) (hl2 : r.ms.length ≤ 400000) (aid aother aobj : ByteArray) (c3 c4 c5 c6 c7 c8 c10 c11 c12 c13 c14 : Value) (hk : aobj.data.toList ∈ r.ms) :
    Calls Try.prog 15 #[.pointer (some ⟨y, 0, none⟩), .agg #[.int .i64 1, .string aid, .string aother, c3, c4, c5, c6, c7, c8, .string aobj, c10, c11, c12, c13, c14]] w (RFollowPost w y vp vm 9 r) := by
  have hbx := boxed_all h (1) aid aother aobj c3 c4 c5 c6 c7 c8 c10 c11 c12 c13 c14
  clear h
  go_enter Try.func15, Try.ntmps15
  go_upto_region 1 with fail
  generalize World.alloc w _ = w0 at *
  generalize w.heap.size = B at *
  have a0 := hbx.ed.a0
  have a1 := hbx.ed.a1
  have a2 := hbx.ed.a2
  have a9 := hbx.ed.a9
  have d0 := hbx.rl.c0
  have d1 := hbx.rl.c1
  have hylt := YAt.lt (a := vp) (b := vm) hbx.rl.yc
  have HB := Lib.hid hbx
  clear hbx
  have HK : Hid (decide (aobj.data.toList ∈ r.ms) = true) := Lib.hid (by simpa using hk)
  clear hk
  go_wp2_with fail
  go_quiet ((go_at_call 24; exact Calls.quiet_of_same (in_q w0 _ vm r.ms aobj true HB.out.rl.m HK.out)))
  have HFIN : Hid (RFollowPost w y vp vm 9 _ (.returned (.int .i64 9)) (w0.drewN nq)) := Lib.hid ⟨rfl, HB.out.done (RChange.drewN (n := nq) (RChange.refl (HB.out.rl.drewN nq)))⟩
  go_wp2_with fail
  go_ret
  exact HFIN.out

set_option maxHeartbeats 4000000 in
set_option maxRecDepth 100000 in
theorem rfollow_twice6 (w : World) (y : Nat) (vp vm : Value) (r : RS) (h : RLin w y vp vm r) (hl1 : r.ps.length ≤ 400000) (hl2 : r.ms.length ≤ 400000) (aid aother aobj : ByteArray) (c3 c4 c5 c6 c7 c8 c10 c11 c12 c13 c14 : Value) (hne : aid ≠ aother) (hp : r.pair aid.data.toList aid.data.toList = true) (hk : aother.data.toList ∈ r.ms) :
    Calls Try.prog 15 #[.pointer (some ⟨y, 0, none⟩), .agg #[.int .i64 6, .string aid, .string aother, c3, c4, c5, c6, c7, c8, .string aobj, c10, c11, c12, c13, c14]] w (RFollowPost w y vp vm 9 r) := by
  have hbx := boxed_all h (6) aid aother aobj c3 c4 c5 c6 c7 c8 c10 c11 c12 c13 c14
  clear h
  go_enter Try.func15, Try.ntmps15
  go_upto_region 1 with fail
  generalize World.alloc w _ = w0 at *
  generalize w.heap.size = B at *
  have a0 := hbx.ed.a0
  have a1 := hbx.ed.a1
  have a2 := hbx.ed.a2
  have a9 := hbx.ed.a9
  have d0 := hbx.rl.c0
  have d1 := hbx.rl.c1
  have hylt := YAt.lt (a := vp) (b := vm) hbx.rl.yc
  have HB := Lib.hid hbx
  clear hbx
  have e0 : (aid.toList == aother.toList) = false := beq_eq_false_iff_ne.2 (fun e => hne (str_eq (by simpa only [ByteArray.toList_eq] using e)))
  clear hne
  have HP := Lib.hid hp
  have HK : Hid (decide (aother.data.toList ∈ r.ms) = true) := Lib.hid (by simpa using hk)
  clear hk hp
  go_wp2_with (go_at_call 32; (with_reducible refine (pair_is w0 y vp vm r aid aid true HB.out.rl HP.out).mono ?_); rintro en w' ⟨rfl, rfl⟩)
  go_quiet ((go_at_call 24; exact Calls.quiet_of_same (in_q w0 _ vm r.ms aother true HB.out.rl.m HK.out)))
  have HFIN : Hid (RFollowPost w y vp vm 9 _ (.returned (.int .i64 9)) (w0.drewN nq)) := Lib.hid ⟨rfl, HB.out.done (RChange.drewN (n := nq) (RChange.refl (HB.out.rl.drewN nq)))⟩
  go_wp2_with fail
  go_ret
  exact HFIN.out

/-- On the way: the lists are r1, nothing but y's block has turned. -/
structure Mid (w0 : World) (y B : Nat) (vp vm : Value) (op : Int) (aid aother aobj : ByteArray) (r1 : RS) (vp1 vm1 : Value) (w2 : World) : Prop where
  rl : RLin w2 y vp1 vm1 r1
  ed : REdAt w2 B op aid aother aobj
  tn : Turn (fun i => i = y) w0 w2
  fp : Fresh w0 vp vp1
  fm : Fresh w0 vm vm1
  ne : B ≠ y
section
variable {w w0 w2 w3 : World} {y B : Nat} {vp vm vp1 vm1 : Value} {op : Int} {aid aother aobj : ByteArray} {r r1 r2 : RS}
theorem Mid.start (h : Boxed w w0 y B vp vm r op aid aother aobj) : Mid w0 y B vp vm op aid aother aobj r vp vm w0 := ⟨h.rl, h.ed, Turn.refl _ _, .inl rfl, .inl rfl, h.ne⟩
theorem Mid.drew (h : Mid w0 y B vp vm op aid aother aobj r1 vp1 vm1 w2) (n : Nat) : Mid w0 y B vp vm op aid aother aobj r1 vp1 vm1 (w2.drewN n) :=
  ⟨h.rl.drewN n, h.ed.turn (drewN_turn w2 n) (fun h => h), h.tn.trans ((drewN_turn w2 n).mono (fun _ h => h.elim)), h.fp, h.fm, h.ne⟩
theorem Mid.next (h : Mid w0 y B vp vm op aid aother aobj r1 vp1 vm1 w2) (k : RChange w2 y vp1 vm1 r2 w3) : ∃ vp2 vm2, Mid w0 y B vp vm op aid aother aobj r2 vp2 vm2 w3 := by
  obtain ⟨vp2, vm2, k1, k2, k3, k4⟩ := k
  exact ⟨vp2, vm2, k1, h.ed.turn k2 h.ne, h.tn.trans k2, h.fp.trans k3 h.tn.size, h.fm.trans k4 h.tn.size, h.ne⟩
theorem Mid.change (h : Mid w0 y B vp vm op aid aother aobj r1 vp1 vm1 w2) : RChange w0 y vp vm r1 w2 := ⟨vp1, vm1, h.rl, h.tn, h.fp, h.fm⟩
end

/-- In the loop that adds: k of all are through. -/
def AddsR (w0 : World) (y B : Nat) (vp vm : Value) (op : Int) (aid aother aobj : ByteArray) (r2 : RS) (all : Value) (i o : Key) (k : Nat) (wr : World) : Prop :=
  ∃ vp1 vm1, Mid w0 y B vp vm op aid aother aobj (r2.adds (r2.ms.take k) i o) vp1 vm1 wr ∧ SL wr all (r2.ms.map toB) ∧ ∀ g, all.ownBlock = some g → g ≠ y
theorem adds_next {r2 : RS} {i o : Key} {k : Nat} (hk : k < r2.ms.length) : r2.adds (r2.ms.take (k + 1)) i o = RS.addOne i o (r2.adds (r2.ms.take k) i o) r2.ms[k] := by
  unfold RS.adds
  rw [List.take_add_one, List.getElem?_eq_getElem hk, List.foldl_append]
  rfl
theorem AddsR.next {w0 wr w3 : World} {y B : Nat} {vp vm vp1 vm1 : Value} {op : Int} {aid aother aobj : ByteArray} {r2 : RS} {all : Value} {i o : Key} {k : Nat} (hk : k < r2.ms.length)
    (hm : Mid w0 y B vp vm op aid aother aobj (r2.adds (r2.ms.take k) i o) vp1 vm1 wr) (hs : SL wr all (r2.ms.map toB)) (hg : ∀ g, all.ownBlock = some g → g ≠ y)
    (hc : RChange wr y vp1 vm1 (RS.addOne i o (r2.adds (r2.ms.take k) i o) r2.ms[k]) w3) : AddsR w0 y B vp vm op aid aother aobj r2 all i o (k + 1) w3 := by
  have ht := hc
  obtain ⟨_, _, _, ht, _, _⟩ := ht
  obtain ⟨vp2, vm2, h2⟩ := hm.next hc
  exact ⟨vp2, vm2, by rw [adds_next hk]; exact h2, hs.turn ht hg, hg⟩

set_option maxHeartbeats 4000000 in
set_option maxRecDepth 100000 in
theorem rfollow_ok1 (w : World) (y : Nat) (vp vm : Value) (r : RS) (h : RLin w y vp vm r) (hl1 : r.ps.length ≤ 400000) (hl2 : r.ms.length ≤ 400000) (aid aother aobj : ByteArray) (c3 c4 c5 c6 c7 c8 c10 c11 c12 c13 c14 : Value) (hk : aobj.data.toList ∉ r.ms) :
    Calls Try.prog 15 #[.pointer (some ⟨y, 0, none⟩), .agg #[.int .i64 1, .string aid, .string aother, c3, c4, c5, c6, c7, c8, .string aobj, c10, c11, c12, c13, c14]] w (RFollowPost w y vp vm 0 (r.mention aobj.data.toList)) := by
  have hbx := boxed_all h (1) aid aother aobj c3 c4 c5 c6 c7 c8 c10 c11 c12 c13 c14
  clear h
  go_enter Try.func15, Try.ntmps15
  go_upto_region 1 with fail
  generalize World.alloc w _ = w0 at *
  generalize w.heap.size = B at *
  have a0 := hbx.ed.a0
  have a1 := hbx.ed.a1
  have a2 := hbx.ed.a2
  have a9 := hbx.ed.a9
  have d0 := hbx.rl.c0
  have d1 := hbx.rl.c1
  have hylt := YAt.lt (a := vp) (b := vm) hbx.rl.yc
  have HB := Lib.hid hbx
  clear hbx
  have HK : Hid (decide (aobj.data.toList ∈ r.ms) = false) := Lib.hid (by simpa using hk)
  clear hk
  have HM0 := Lib.hid (Mid.start HB.out)
  go_wp2_with fail
  go_quiet ((go_at_call 24; exact Calls.quiet_of_same (in_q w0 _ vm r.ms aobj false HB.out.rl.m HK.out)))
  go_wp2_with (go_at_call 33; (with_reducible refine (rmention_any _ y vp vm r aobj (HB.out.rl.drewN nq) (by omega) (by omega)).mono ?_); rintro en w2 ⟨rfl, hc⟩; obtain ⟨vp1, vm1, hm⟩ := Mid.next (HM0.out.drew nq) hc; have HM1 := Lib.hid hm; clear hc hm)
  have HFIN : Hid (RFollowPost w y vp vm 0 _ (.returned (.int .i64 0)) (w2)) := Lib.hid ⟨rfl, HB.out.done HM1.out.change⟩
  go_ret
  exact HFIN.out

set_option maxHeartbeats 4000000 in
set_option maxRecDepth 100000 in
theorem rfollow_ok2 (w : World) (y : Nat) (vp vm : Value) (r : RS) (h : RLin w y vp vm r) (hl1 : r.ps.length ≤ 400000) (hl2 : r.ms.length ≤ 400000) (aid aother aobj : ByteArray) (c3 c4 c5 c6 c7 c8 c10 c11 c12 c13 c14 : Value) (hp : r.pair aid.data.toList aid.data.toList = true) :
    Calls Try.prog 15 #[.pointer (some ⟨y, 0, none⟩), .agg #[.int .i64 2, .string aid, .string aother, c3, c4, c5, c6, c7, c8, .string aobj, c10, c11, c12, c13, c14]] w (RFollowPost w y vp vm 0 (r.mention aid.data.toList)) := by
  have hbx := boxed_all h (2) aid aother aobj c3 c4 c5 c6 c7 c8 c10 c11 c12 c13 c14
  clear h
  go_enter Try.func15, Try.ntmps15
  go_upto_region 1 with fail
  generalize World.alloc w _ = w0 at *
  generalize w.heap.size = B at *
  have a0 := hbx.ed.a0
  have a1 := hbx.ed.a1
  have a2 := hbx.ed.a2
  have a9 := hbx.ed.a9
  have d0 := hbx.rl.c0
  have d1 := hbx.rl.c1
  have hylt := YAt.lt (a := vp) (b := vm) hbx.rl.yc
  have HB := Lib.hid hbx
  clear hbx
  have HP := Lib.hid hp
  clear hp
  have HM0 := Lib.hid (Mid.start HB.out)
  have HL := Lib.hid (mention_len r aid.data.toList)
  go_wp2_with (go_at_call 32; (with_reducible refine (pair_is w0 y vp vm r aid aid true HB.out.rl HP.out).mono ?_); rintro en w' ⟨rfl, rfl⟩)
  go_quiet (fail)
  go_upto_region 12 with (go_at_call 33; (with_reducible refine (rmention_any _ y vp vm r aid (HB.out.rl.drewN nq) (by omega) (by omega)).mono ?_); rintro en w2 ⟨rfl, hc⟩; obtain ⟨vp1, vm1, hm⟩ := Mid.next (HM0.out.drew nq) hc; have HM1 := Lib.hid hm; clear hc hm)
  have a01 := HM1.out.ed.a0
  have a11 := HM1.out.ed.a1
  have a21 := HM1.out.ed.a2
  have a91 := HM1.out.ed.a9
  have d01 := HM1.out.rl.c0
  have d11 := HM1.out.rl.c1
  have hy1 := YAt.lt (a := vp1) (b := vm1) HM1.out.rl.yc
  have HFIN : Hid (RFollowPost w y vp vm 0 _ (.returned (.int .i64 0)) (w2)) := Lib.hid ⟨rfl, HB.out.done HM1.out.change⟩
  go_wp2_with fail
  go_ret
  exact HFIN.out

set_option maxHeartbeats 4000000 in
set_option maxRecDepth 100000 in
theorem rfollow_ok3 (w : World) (y : Nat) (vp vm : Value) (r : RS) (h : RLin w y vp vm r) (hl1 : r.ps.length ≤ 400000) (hl2 : r.ms.length ≤ 400000) (aid aother aobj : ByteArray) (c3 c4 c5 c6 c7 c8 c10 c11 c12 c13 c14 : Value) (hp : r.pair aid.data.toList aid.data.toList = true) :
    Calls Try.prog 15 #[.pointer (some ⟨y, 0, none⟩), .agg #[.int .i64 3, .string aid, .string aother, c3, c4, c5, c6, c7, c8, .string aobj, c10, c11, c12, c13, c14]] w (RFollowPost w y vp vm 0 (r.mention aid.data.toList)) := by
  have hbx := boxed_all h (3) aid aother aobj c3 c4 c5 c6 c7 c8 c10 c11 c12 c13 c14
  clear h
  go_enter Try.func15, Try.ntmps15
  go_upto_region 1 with fail
  generalize World.alloc w _ = w0 at *
  generalize w.heap.size = B at *
  have a0 := hbx.ed.a0
  have a1 := hbx.ed.a1
  have a2 := hbx.ed.a2
  have a9 := hbx.ed.a9
  have d0 := hbx.rl.c0
  have d1 := hbx.rl.c1
  have hylt := YAt.lt (a := vp) (b := vm) hbx.rl.yc
  have HB := Lib.hid hbx
  clear hbx
  have HP := Lib.hid hp
  clear hp
  have HM0 := Lib.hid (Mid.start HB.out)
  have HL := Lib.hid (mention_len r aid.data.toList)
  go_wp2_with (go_at_call 32; (with_reducible refine (pair_is w0 y vp vm r aid aid true HB.out.rl HP.out).mono ?_); rintro en w' ⟨rfl, rfl⟩)
  go_quiet (fail)
  go_upto_region 12 with (go_at_call 33; (with_reducible refine (rmention_any _ y vp vm r aid (HB.out.rl.drewN nq) (by omega) (by omega)).mono ?_); rintro en w2 ⟨rfl, hc⟩; obtain ⟨vp1, vm1, hm⟩ := Mid.next (HM0.out.drew nq) hc; have HM1 := Lib.hid hm; clear hc hm)
  have a01 := HM1.out.ed.a0
  have a11 := HM1.out.ed.a1
  have a21 := HM1.out.ed.a2
  have a91 := HM1.out.ed.a9
  have d01 := HM1.out.rl.c0
  have d11 := HM1.out.rl.c1
  have hy1 := YAt.lt (a := vp1) (b := vm1) HM1.out.rl.yc
  have HFIN : Hid (RFollowPost w y vp vm 0 _ (.returned (.int .i64 0)) (w2)) := Lib.hid ⟨rfl, HB.out.done HM1.out.change⟩
  go_wp2_with fail
  go_ret
  exact HFIN.out

set_option maxHeartbeats 4000000 in
set_option maxRecDepth 100000 in
theorem rfollow_ok4 (w : World) (y : Nat) (vp vm : Value) (r : RS) (h : RLin w y vp vm r) (hl1 : r.ps.length ≤ 400000) (hl2 : r.ms.length ≤ 400000) (aid aother aobj : ByteArray) (c3 c4 c5 c6 c7 c8 c10 c11 c12 c13 c14 : Value) (hp : r.pair aid.data.toList aid.data.toList = true) :
    Calls Try.prog 15 #[.pointer (some ⟨y, 0, none⟩), .agg #[.int .i64 4, .string aid, .string aother, c3, c4, c5, c6, c7, c8, .string aobj, c10, c11, c12, c13, c14]] w (RFollowPost w y vp vm 0 (r.mention aid.data.toList)) := by
  have hbx := boxed_all h (4) aid aother aobj c3 c4 c5 c6 c7 c8 c10 c11 c12 c13 c14
  clear h
  go_enter Try.func15, Try.ntmps15
  go_upto_region 1 with fail
  generalize World.alloc w _ = w0 at *
  generalize w.heap.size = B at *
  have a0 := hbx.ed.a0
  have a1 := hbx.ed.a1
  have a2 := hbx.ed.a2
  have a9 := hbx.ed.a9
  have d0 := hbx.rl.c0
  have d1 := hbx.rl.c1
  have hylt := YAt.lt (a := vp) (b := vm) hbx.rl.yc
  have HB := Lib.hid hbx
  clear hbx
  have HP := Lib.hid hp
  clear hp
  have HM0 := Lib.hid (Mid.start HB.out)
  have HL := Lib.hid (mention_len r aid.data.toList)
  go_wp2_with (go_at_call 32; (with_reducible refine (pair_is w0 y vp vm r aid aid true HB.out.rl HP.out).mono ?_); rintro en w' ⟨rfl, rfl⟩)
  go_quiet (fail)
  go_upto_region 12 with (go_at_call 33; (with_reducible refine (rmention_any _ y vp vm r aid (HB.out.rl.drewN nq) (by omega) (by omega)).mono ?_); rintro en w2 ⟨rfl, hc⟩; obtain ⟨vp1, vm1, hm⟩ := Mid.next (HM0.out.drew nq) hc; have HM1 := Lib.hid hm; clear hc hm)
  have a01 := HM1.out.ed.a0
  have a11 := HM1.out.ed.a1
  have a21 := HM1.out.ed.a2
  have a91 := HM1.out.ed.a9
  have d01 := HM1.out.rl.c0
  have d11 := HM1.out.rl.c1
  have hy1 := YAt.lt (a := vp1) (b := vm1) HM1.out.rl.yc
  have HFIN : Hid (RFollowPost w y vp vm 0 _ (.returned (.int .i64 0)) (w2)) := Lib.hid ⟨rfl, HB.out.done HM1.out.change⟩
  go_wp2_with fail
  go_ret
  exact HFIN.out

set_option maxHeartbeats 4000000 in
set_option maxRecDepth 100000 in
theorem rfollow_ok5 (w : World) (y : Nat) (vp vm : Value) (r : RS) (h : RLin w y vp vm r) (hl1 : r.ps.length ≤ 400000) (hl2 : r.ms.length ≤ 400000) (aid aother aobj : ByteArray) (c3 c4 c5 c6 c7 c8 c10 c11 c12 c13 c14 : Value) (hp : r.pair aid.data.toList aid.data.toList = true) :
    Calls Try.prog 15 #[.pointer (some ⟨y, 0, none⟩), .agg #[.int .i64 5, .string aid, .string aother, c3, c4, c5, c6, c7, c8, .string aobj, c10, c11, c12, c13, c14]] w (RFollowPost w y vp vm 0 ((r.mention aid.data.toList).drop aid.data.toList)) := by
  have hbx := boxed_all h (5) aid aother aobj c3 c4 c5 c6 c7 c8 c10 c11 c12 c13 c14
  clear h
  go_enter Try.func15, Try.ntmps15
  go_upto_region 1 with fail
  generalize World.alloc w _ = w0 at *
  generalize w.heap.size = B at *
  have a0 := hbx.ed.a0
  have a1 := hbx.ed.a1
  have a2 := hbx.ed.a2
  have a9 := hbx.ed.a9
  have d0 := hbx.rl.c0
  have d1 := hbx.rl.c1
  have hylt := YAt.lt (a := vp) (b := vm) hbx.rl.yc
  have HB := Lib.hid hbx
  clear hbx
  have HP := Lib.hid hp
  clear hp
  have HM0 := Lib.hid (Mid.start HB.out)
  have HL := Lib.hid (mention_len r aid.data.toList)
  go_wp2_with (go_at_call 32; (with_reducible refine (pair_is w0 y vp vm r aid aid true HB.out.rl HP.out).mono ?_); rintro en w' ⟨rfl, rfl⟩)
  go_quiet (fail)
  go_upto_region 12 with (go_at_call 33; (with_reducible refine (rmention_any _ y vp vm r aid (HB.out.rl.drewN nq) (by omega) (by omega)).mono ?_); rintro en w2 ⟨rfl, hc⟩; obtain ⟨vp1, vm1, hm⟩ := Mid.next (HM0.out.drew nq) hc; have HM1 := Lib.hid hm; clear hc hm)
  have a01 := HM1.out.ed.a0
  have a11 := HM1.out.ed.a1
  have a21 := HM1.out.ed.a2
  have a91 := HM1.out.ed.a9
  have d01 := HM1.out.rl.c0
  have d11 := HM1.out.rl.c1
  have hy1 := YAt.lt (a := vp1) (b := vm1) HM1.out.rl.yc
  go_wp2_with (go_at_call 35; (with_reducible refine (rdrop_any _ y vp1 vm1 _ aid HM1.out.rl (by have := HL.out.1; omega)).mono ?_); rintro en w3 ⟨rfl, hc⟩; obtain ⟨vp2, vm2, hm⟩ := Mid.next HM1.out hc; have HM2 := Lib.hid hm; clear hc hm)
  have HFIN : Hid (RFollowPost w y vp vm 0 _ (.returned (.int .i64 0)) (w3)) := Lib.hid ⟨rfl, HB.out.done HM2.out.change⟩
  go_ret
  exact HFIN.out

end Go.Proofs.Ytkbjfmlfmmmknaa
