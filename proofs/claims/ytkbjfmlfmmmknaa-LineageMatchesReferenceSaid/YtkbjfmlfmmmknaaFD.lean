/- Follow, where the operation is split: what it hands back, and what became of the lineage. -/
import Derived.Test.YtkbjfmlfmmmknaaF1
import Derived.Deep.DeepCutAuto
namespace Go.Proofs.Ytkbjfmlfmmmknaa
open Go.RowKit Go.Maps Go.WideMaps Go.ChangeMaps

set_option maxHeartbeats 4000000 in
set_option maxRecDepth 100000 in
theorem follow_split (w : World) (x n bo : Nat) (F : Nat → Prop) (st : St) (D : DataW Unit) (blk : Key → Nat) (h : LinAt w x F n st bo D blk) (hn : n < 1000000) (id other obj : ByteArray) (c3 c4 c5 c6 c7 c8 c10 c11 c12 c13 c14 : Value)
    (hs : id.size ≤ maxLen) (hso : other.size ≤ maxLen) (hne : id ≠ other) :
    Calls Try.prog 14 #[.pointer (some ⟨x, 0, none⟩), .agg #[.int .i64 6, .string id, .string other, c3, c4, c5, c6, c7, c8, .string obj, c10, c11, c12, c13, c14]] w (FollowPost w x F n st ⟨6, id.data.toList, other.data.toList, obj.data.toList⟩) := by
  have hbx := fun m => sit_boxed (op := 6) (id := id) (other := other) (obj := obj) w h c3 c4 c5 c6 c7 c8 c10 c11 c12 c13 c14 m
  have HB := Lib.hid hbx
  clear hbx h
  have hkne : id.data.toList ≠ other.data.toList := fun e => hne (str_eq e)
  have hn1 : (id.toList == other.toList) = false := beq_eq_false_iff_ne.2 (fun e => hkne (by simpa only [ByteArray.toList_eq] using e))
  have hn2 : (id.data.toList == other.data.toList) = false := beq_eq_false_iff_ne.2 hkne
  have HNE := Lib.hid hne
  have HKNE := Lib.hid hkne
  clear hne hkne
  go_enter Try.func14, Try.ntmps14
  go_wp2_with fail
  go_quiet (fail)
  revert nq; intro nqa
  go_wp2_with fail
  have hS := HB.out nqa
  clear HB
  generalize ((w.alloc (.cells #[.int .i64 6, .string id, .string other, c3, c4, c5, c6, c7, c8, .string obj, c10, c11, c12, c13, c14] 38)).drewN nqa) = W at *
  generalize heb : w.heap.size = eb at *
  have HEB := Lib.hid heb
  clear heb
  go_cut [57] (fun c wx => c = .bool (!(ofS st id.data.toList id.data.toList)) ∧ Sit w wx x F n st bo D blk eb 6 id other obj)
  case first =>
    have hgg : ∀ W1, W.drew.grownBy W1 none → Sit w W1 x F n st bo D blk eb 6 id other obj := fun W1 hg => hS.drew.grown hg
    have HG := Lib.hid hgg
    clear hgg
    have hof := of_any W.drew x n bo F st D blk id hS.drew.lin hs
    have e0 := hS.drew.ed.op_
    have e1 := hS.drew.ed.id_
    have HS := Lib.hid hS
    clear hS
    go_region_with (first | (go_at_call 29; refine hof.mono ?_; rintro e W1 ⟨b, rfl, hset, hg⟩; have hS1 := Lib.hid (HG.out W1 hg); have e11 := hS1.out.ed.id_; have hh := fun (s : ByteArray) (hs : s.size ≤ maxLen) => has_any W1 b _ _ s hset hs) | (go_at_call 30; refine (hh id hs).mono ?_; rintro e w' ⟨rfl, rfl⟩))
    all_goals (go_wp2_with fail; go_meet; exact ⟨rfl, hS1.out⟩)
  
  case rest =>
    clear hS
    obtain ⟨rfl, hS2⟩ := hcut
    cases hb : ofS st id.data.toList id.data.toList with
    | false =>
      have HF := Lib.hid (follow_err hS2 (e := ⟨6, id.data.toList, other.data.toList, obj.data.toList⟩) (c := 11) (by simp [err, Ed.two, HKNE.out, hb]) (by decide))
      clear hb hS2
      go_wp2_with fail
      go_ret
      exact HF.out
    | true =>
      cases hf : st other.data.toList with
      | some T =>
        have HERR : Hid (err st ⟨6, id.data.toList, other.data.toList, obj.data.toList⟩ = 9) := Lib.hid (by simp [err, Ed.two, Ed.fresh, HKNE.out, hb, hf])
        clear hb
        have e0 := hS2.ed.op_
        have e1 := hS2.ed.id_
        have e2 := hS2.ed.other_
        go_wp2_with fail
        go_quiet (fail)
        have hS3 := hS2.drewN nq
        clear e0 e1 hS2 e2
        have hc := hS3.lin.cell
        have hrun := hS3.lin.look_some hso hf
        clear hf
        generalize wc.drewN nq = W3 at *
        have e0 := hS3.ed.op_
        have e1 := hS3.ed.id_
        have e2 := hS3.ed.other_
        have HF := Lib.hid (follow_err hS3 (e := ⟨6, id.data.toList, other.data.toList, obj.data.toList⟩) (c := 9) HERR.out (by decide))
        clear hS3
        go_wp2_with fail
        go_ret
        exact HF.out
      | none =>
        have HOK : Hid (err st ⟨6, id.data.toList, other.data.toList, obj.data.toList⟩ = 0) := Lib.hid (by simp [err, Ed.two, Ed.fresh, HKNE.out, hb, hf])
        clear hb
        have e0 := hS2.ed.op_
        have e1 := hS2.ed.id_
        have e2 := hS2.ed.other_
        go_wp2_with fail
        go_quiet (fail)
        have hS3 := hS2.drewN nq
        clear e0 e1 hS2 e2
        have hc := hS3.lin.cell
        have hrun := hS3.lin.look_none hso hf
        clear hf
        generalize wc.drewN nq = W3 at *
        have e0 := hS3.ed.op_
        have e1 := hS3.ed.id_
        have e2 := hS3.ed.other_
        go_upto_region 13 with fail
        clear hrun hc e0 e1 e2
        generalize W3 = wc at *
        have hm := mention_any wc x n bo F st D blk id hS3.lin hs (by unfold maxLen; omega)
        have HS3 := Lib.hid hS3
        clear hS3
        go_wp2_with (first
          | (go_at_call 31; refine hm.mono ?_; rintro e W4' ⟨rfl, F1, D1, blk1, hL1, hT1, hFF, hF1⟩; have HF1 := Lib.hid hF1; have hnF1 : ¬ F1 eb := fun hf => (hF1 eb hf).elim HS3.out.nF (fun h => by have := HS3.out.ed.lt; omega); clear hF1 hFF hm; have hE1 := HS3.out.ed.turn hT1 HS3.out.nF; have e2 := hE1.other_; have hm2 := mention_any W4' x (n + 1) bo F1 _ D1 blk1 other hL1 hso (by unfold maxLen; omega))
          | (go_at_call 31; refine hm2.mono ?_; rintro e W4 ⟨rfl, F', D', blk', hL4, hT5, hFF, hF5⟩; clear e2; have hT45 := ment_two hT1 HF1.out hT5 hF5; have hT4 := hT45.1; have HF4 := Lib.hid hT45.2; have hnF : ¬ F' eb := fun hf => (hF5 eb hf).elim hnF1 (fun h => by have := hE1.lt; omega); have hE4 := hE1.turn hT5 hnF1; clear hT45 hF5 hFF hm2 hT5 hE1 hnF1 hT1 hL1 HF1; have hc4 := hL4.cell)
          | (at_range; refine wpList_range_own _ rfl _ 53 rfl 9 60 K9 Try.underlying53 _ bo (n + 1 + 1) D' rfl hL4.own ?_; intro w0 hrg0 hg0 hs0; have HR0 := Lib.hid (LoopR.start (e := ⟨6, id.data.toList, other.data.toList, obj.data.toList⟩) hL4 hE4 hnF hg0 hrg0); clear hs0 hrg0 hE4 hc4))
        go_frame
        go_loopg [] (w0.rangeLeft bo W4.heap.size) (fun c wr => LoopR ⟨6, id.data.toList, other.data.toList, obj.data.toList⟩ w0 x F' (n + 1 + 1) (mentionS (mentionS st id.data.toList) other.data.toList) bo D' blk' W4.heap.size eb 6 id other obj wr ∧ wr.rangeLeft bo W4.heap.size = c)
        case atStart => exact ⟨HR0.out, rfl⟩
        case round =>
          clear HR0
          have HFIN := Lib.hid (fun (wr : World) hT hf => follow_fin (w0 := w) (st := st) (x := x) (bo := bo) (D' := D') (blk' := blk') (n := n) (N := n + 1 + 1 + 1) (wr := wr) HS3.out.tn hT4 HF4.out hg0 hT hf (by omega) HOK.out rfl)
          clear HF4 HS3 HOK hg0 hT4 hL4
          generalize W4.heap.size = r at *
          have HREL := Lib.hid hrel
          clear hrel
          go_wp2_with (at_next; refine wpList_next_R rfl _ rfl rfl HREL.out.1 HREL.out.2 ?_ ?_)
          · intro hfin hT
            have HF2 := Lib.hid (HFIN.out wr hT hfin)
            clear hfin hT HFIN HREL
            go_wp2_with fail
            go_ret
            exact HF2.out
          · intro k S b w' cnt' hR hlt hen
            clear HREL HFIN
            have e0 := hR.ed.op_
            have e1 := hR.ed.id_
            have e2 := hR.ed.other_
            have hset := hR.own
            have hh := has_any w' b (n + 1 + 1) S id hset hs
            have HR := Lib.hid hR
            clear hR
            cases hSi : S id.data.toList with
            | true =>
              rw [hSi] at hh
              have HU := Lib.hid (upd_split_yes (id := id.data.toList) (other := other.data.toList) (obj := obj.data.toList) hSi)
              clear hSi
              go_wp2_with (first | (go_at_call 30; refine hh.mono ?_; rintro e w1 ⟨rfl, rfl⟩) | (at_mapUpdate; refine wpList_set_store rfl _ _ _ rfl hset rfl other rfl rfl hso (by unfold maxLen; omega) ?_; intro w2 hs2 hg2))
              have h1 := HR.out.fin hg2 (by rw [HU.out]; exact hs2)
              go_roundg cnt'
              case measure => exact hlt
              case rel => exact h1
            | false =>
              rw [hSi] at hh
              have HU := Lib.hid (upd_split_no (id := id.data.toList) (other := other.data.toList) (obj := obj.data.toList) hSi)
              clear hSi
              go_wp2_with (go_at_call 30; refine hh.mono ?_; rintro e w1 ⟨rfl, rfl⟩)
              have h1 := HR.out.same HU.out
              go_roundg cnt'
              case measure => exact hlt
              case rel => exact h1

end Go.Proofs.Ytkbjfmlfmmmknaa
