/- Follow, where the operation is put: what it hands back, and what became of the lineage. -/
import Derived.Test.YtkbjfmlfmmmknaaF1
import Derived.Deep.DeepCutAuto
namespace Go.Proofs.Ytkbjfmlfmmmknaa
open Go.RowKit Go.Maps Go.WideMaps Go.ChangeMaps

set_option maxHeartbeats 4000000 in
set_option maxRecDepth 100000 in
theorem follow_put (w : World) (x n bo : Nat) (F : Nat → Prop) (st : St) (D : DataW Unit) (blk : Key → Nat) (h : LinAt w x F n st bo D blk) (hn : n < 1000000) (id other obj : ByteArray) (c3 c4 c5 c6 c7 c8 c10 c11 c12 c13 c14 : Value)
    (hso : obj.size ≤ maxLen) :
    Calls Try.prog 14 #[.pointer (some ⟨x, 0, none⟩), .agg #[.int .i64 1, .string id, .string other, c3, c4, c5, c6, c7, c8, .string obj, c10, c11, c12, c13, c14]] w (FollowPost w x F n st ⟨1, id.data.toList, other.data.toList, obj.data.toList⟩) := by
  have hbx := fun m => sit_boxed (op := 1) (id := id) (other := other) (obj := obj) w h c3 c4 c5 c6 c7 c8 c10 c11 c12 c13 c14 m
  have HB := Lib.hid hbx
  clear hbx h
  go_enter Try.func14, Try.ntmps14
  go_wp2_with fail
  go_quiet (fail)
  revert nq; intro nqa
  go_wp2_with fail
  go_quiet (fail)
  revert nq; intro nqb
  go_wp2_with fail
  have hS := HB.out (nqa + nqb)
  clear HB
  generalize ((w.alloc (.cells #[.int .i64 1, .string id, .string other, c3, c4, c5, c6, c7, c8, .string obj, c10, c11, c12, c13, c14] 38)).drewN (nqa + nqb)) = W at *
  generalize heb : w.heap.size = eb at *
  have HEB := Lib.hid heb
  clear heb
  have hS2 := hS
  clear hS
  generalize W = wc at *
  have e0 := hS2.ed.op_
  go_quiet (fail)
  have hS2' := hS2.drewN nq
  clear e0 hS2
  generalize wc.drewN nq = wd at *
  have hS2 := hS2'
  clear hS2'
  generalize wd = wc at *
  have e0 := hS2.ed.op_
  have e1 := hS2.ed.id_
  cases hf : st obj.data.toList with
  | some T =>
    have HERR : Hid (err st ⟨1, id.data.toList, other.data.toList, obj.data.toList⟩ = 9) := Lib.hid (by simp [err, Ed.two, Ed.fresh, hf])
    go_wp2_with fail
    go_quiet (fail)
    have hS3 := hS2.drewN nq
    clear e0 e1 hS2
    have hc := hS3.lin.cell
    have hrun := hS3.lin.look_some hso hf
    clear hf
    generalize wc.drewN nq = W3 at *
    have e0 := hS3.ed.op_
    have e1 := hS3.ed.id_
    have e2 := hS3.ed.other_
    have HF := Lib.hid (follow_err hS3 (e := ⟨1, id.data.toList, other.data.toList, obj.data.toList⟩) (c := 9) HERR.out (by decide))
    clear hS3
    go_wp2_with fail
    go_ret
    exact HF.out
  | none =>
    have HOK : Hid (err st ⟨1, id.data.toList, other.data.toList, obj.data.toList⟩ = 0) := Lib.hid (by simp [err, Ed.two, Ed.fresh, hf])
    go_wp2_with fail
    go_quiet (fail)
    have hS3 := hS2.drewN nq
    clear e0 e1 hS2
    have hc := hS3.lin.cell
    have hrun := hS3.lin.look_none hso hf
    clear hf
    generalize wc.drewN nq = W3 at *
    have e0 := hS3.ed.op_
    have e1 := hS3.ed.id_
    have e2 := hS3.ed.other_
    go_upto_region 13 with fail
    clear hrun hc e0 e1 e2
    generalize W3 = wc at *
    have hm := mention_any wc x n bo F st D blk obj hS3.lin hso (by unfold maxLen; omega)
    have HS3 := Lib.hid hS3
    clear hS3
    go_wp2_with (first
      | (go_at_call 31; refine hm.mono ?_; rintro e W4 ⟨rfl, F', D', blk', hL4, hT4, hFF, hF4⟩; have HF4 := Lib.hid hF4; have hnF : ¬ F' eb := fun hf => (hF4 eb hf).elim HS3.out.nF (fun h => by have := HS3.out.ed.lt; omega); clear hF4 hFF hm; have hE4 := HS3.out.ed.turn hT4 HS3.out.nF; have hc4 := hL4.cell)
      | (at_range; refine wpList_range_own _ rfl _ 53 rfl 9 60 K9 Try.underlying53 _ bo (n + 1) D' rfl hL4.own ?_; intro w0 hrg0 hg0 hs0; have HR0 := Lib.hid (LoopR.start (e := ⟨1, id.data.toList, other.data.toList, obj.data.toList⟩) hL4 hE4 hnF hg0 hrg0); clear hs0 hrg0 hE4 hc4))
    go_frame
    go_loopg [] (w0.rangeLeft bo W4.heap.size) (fun c wr => LoopR ⟨1, id.data.toList, other.data.toList, obj.data.toList⟩ w0 x F' (n + 1) (mentionS st obj.data.toList) bo D' blk' W4.heap.size eb 1 id other obj wr ∧ wr.rangeLeft bo W4.heap.size = c)
    case atStart => exact ⟨HR0.out, rfl⟩
    case round =>
      clear HR0
      have HFIN := Lib.hid (fun (wr : World) hT hf => follow_fin (w0 := w) (st := st) (x := x) (bo := bo) (D' := D') (blk' := blk') (n := n) (N := n + 1 + 1) (wr := wr) HS3.out.tn hT4 HF4.out hg0 hT hf (by omega) HOK.out rfl)
      clear HF4 HS3 HOK hg0 hT4 hL4
      generalize W4.heap.size = r at *
      have HREL := Lib.hid hrel
      clear hrel
      go_wp2_with (at_next; refine wpList_next_R rfl _ rfl rfl HREL.out.1 HREL.out.2 ?_ ?_)
      · intro hfin hT
        have HF2 := Lib.hid (HFIN.out wr hT hfin)
        clear hfin hT HFIN HREL
        go_wp2_with fail
        go_ret
        exact HF2.out
      · intro k S b w' cnt' hR hlt hen
        clear HREL HFIN
        have e0 := hR.ed.op_
        have HR := Lib.hid hR
        clear hR
        go_wp2_with fail
        have h1 := HR.out.same (upd_quiet (by show (1 : Int) < 5; decide) (by show (1 : Int) ≤ 1; decide))
        go_roundg cnt'
        case measure => exact hlt
        case rel => exact h1

end Go.Proofs.Ytkbjfmlfmmmknaa
