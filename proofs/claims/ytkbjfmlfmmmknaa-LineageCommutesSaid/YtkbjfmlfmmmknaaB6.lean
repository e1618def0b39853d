/- The walk of LineageCommutes. -/
import Derived.Test.YtkbjfmlfmmmknaaA1
namespace Go.Proofs.Ytkbjfmlfmmmknaa
open Go.RowKit Go.Maps Go.WideMaps Go.ChangeMaps Go.Sort

theorem Env2.follow_is {w0 w : World} {n x y : Nat} {st st' : St} {held : List (Value × List ByteArray)} (h : Env2 w0 w n x st y st' held) (hn : n < 1000000) (e : EdC) (he : e.ok) (ed : Ed) (hed : e.ed = ed) :
    Calls Try.prog 14 #[.pointer (some ⟨x, 0, none⟩), e.val] w (EFollow2 w0 n x st y st' held ed) := hed ▸ h.follow hn e he
theorem not_tf {b : Bool} (h : b = false) (k : b = true) : False := by rw [h] at k; cases k

/-- What the guards let through: no Id that one edit uses is used by the other. -/
def Good (a b : EdC) : Prop := ∀ k, Uses a.ed k → ¬ Uses b.ed k

theorem key_empty {x : ByteArray} (h : x.data.toList = []) : x.toList.isEmpty = true := by rw [ByteArray.toList_eq, h]; rfl

theorem good_of {a b : EdC} (hA : ∀ x ∈ [a.id, a.other, a.obj], ∀ y ∈ [b.id, b.other, b.obj], x = y → x = ⟨#[]⟩) (h1 : ¬ (a.id.toList.isEmpty = true ∧ b.id.toList.isEmpty = true))
    (h2 : ¬ (a.other.toList.isEmpty = true ∧ 6 ≤ a.op)) (h3 : ¬ (b.other.toList.isEmpty = true ∧ 6 ≤ b.op)) (h4 : ¬ (a.op = 1 ∧ a.obj.toList.isEmpty = true)) (h5 : ¬ (b.op = 1 ∧ b.obj.toList.isEmpty = true)) : Good a b := by
  have use : ∀ (e : EdC) (k : Key), Uses e.ed k → ∃ x ∈ [e.id, e.other, e.obj], x.data.toList = k := by
    intro e k h
    rcases h with ⟨_, rfl⟩ | ⟨_, rfl⟩ | ⟨_, rfl⟩
    · exact ⟨e.obj, by simp, rfl⟩
    · exact ⟨e.id, by simp, rfl⟩
    · exact ⟨e.other, by simp, rfl⟩
  have empty : ∀ e : EdC, Uses e.ed [] → ¬ (e.other.toList.isEmpty = true ∧ 6 ≤ e.op) → ¬ (e.op = 1 ∧ e.obj.toList.isEmpty = true) → e.id.toList.isEmpty = true := by
    intro e h k2 k3
    rcases h with ⟨ho, hk⟩ | ⟨_, hk⟩ | ⟨ho, hk⟩
    · exact absurd ⟨ho, key_empty hk.symm⟩ k3
    · exact key_empty hk.symm
    · refine absurd ⟨key_empty hk.symm, ?_⟩ k2
      have : e.ed.op = e.op := rfl
      omega
  intro k ha hb
  obtain ⟨x, hx, ex⟩ := use a k ha
  obtain ⟨y, hy, ey⟩ := use b k hb
  have hxy : x = y := str_eq (ex.trans ey.symm)
  have hk : k = [] := by rw [← ex, hA x hx y hy hxy]
  subst hk
  exact h1 ⟨empty a ha h2 h4, empty b hb h3 h5⟩

theorem commutes_law {st : St} {a b : Ed} (h : ∀ k, Uses a k → ¬ Uses b k) : err (step st b) a = err st a ∧ err (step st a) b = err st b ∧ ofS (step (step st a) b) = ofS (step (step st b) a) := by
  have e1 := err_step (st := st) h
  have e2 := err_step (st := st) (a := b) (b := a) (fun k hb ha => h k ha hb)
  refine ⟨e1, e2, ?_⟩
  funext j
  by_cases ha : err st a = 0
  · by_cases hb : err st b = 0
    · rw [ofS_step (e2.trans hb), ofS_step ha, ofS_step (e1.trans ha), ofS_step hb, upd_comm h]
    · rw [step_same (fun hh => hb (e2.symm.trans hh)), step_same hb]
  · rw [step_same ha]
    by_cases hb : err st b = 0
    · rw [step_same (st := step st b) (fun hh => ha (e1.symm.trans hh))]
    · rw [step_same hb, step_same ha]

set_option maxHeartbeats 16000000 in
set_option maxRecDepth 100000 in
theorem commutes_walk (w : World) (v : Value) (es : List EdC) (a b : EdC) (id : ByteArray) (h : Eds w v es) (hao : a.ok) (hbo : b.ok) (hid : id.size ≤ maxLen) :
    Calls Try.prog 8 #[v, a.val, b.val, .string id] w (HeadPost w) := by
  have H := Lib.hid h
  clear h
  obtain ⟨op, aid, aother, aobj, c3, c4, c5, c6, c7, c8, c10, c11, c12, c13, c14⟩ := a
  obtain ⟨op', bid, bother, bobj, d3, d4, d5, d6, d7, d8, d10, d11, d12, d13, d14⟩ := b
  have HOA := Lib.hid hao
  have HOB := Lib.hid hbo
  clear hao hbo
  unfold EdC.val EdC.cells
  dsimp only
  go_enter Try.func8, Try.ntmps8
  go_upto_region 1 with fail
  have hra := boxed_range w [.int .i64 op, .string aid, .string aother, c3, c4, c5, c6, c7, c8, .string aobj, c10, c11, c12, c13, c14] 38
  have hb0 := boxed_below w (.cells (#[.int .i64 op, .string aid, .string aother, c3, c4, c5, c6, c7, c8, .string aobj, c10, c11, c12, c13, c14]) 38)
  have hz0 := boxed_size w (.cells (#[.int .i64 op, .string aid, .string aother, c3, c4, c5, c6, c7, c8, .string aobj, c10, c11, c12, c13, c14]) 38)
  generalize World.alloc w _ = wm at *
  have hrb := boxed_range wm [.int .i64 op', .string bid, .string bother, d3, d4, d5, d6, d7, d8, .string bobj, d10, d11, d12, d13, d14] 38
  have hb2 := boxed_below wm (.cells (#[.int .i64 op', .string bid, .string bother, d3, d4, d5, d6, d7, d8, .string bobj, d10, d11, d12, d13, d14]) 38)
  have hz2 := boxed_size wm (.cells (#[.int .i64 op', .string bid, .string bother, d3, d4, d5, d6, d7, d8, .string bobj, d10, d11, d12, d13, d14]) 38)
  generalize World.alloc wm _ = w0 at *
  have hbw := hb0.trans (hb2.mono hb0.size)
  have hra2 : w0.rangeAt w.heap.size 0 _ := rangeAt_turn hra (hb2.block _ (by omega))
  have HH := Lib.hid (H.out.turn hbw)
  have HBW := Lib.hid hbw
  generalize hB : w.heap.size = B at *
  generalize hC : wm.heap.size = C at *
  obtain rfl : C = B + 1 := by omega
  have HBlt : Hid (B < w0.heap.size ∧ B + 1 < w0.heap.size ∧ w.heap.size ≤ w0.heap.size) := Lib.hid ⟨by omega, by omega, by omega⟩
  have HRA := Lib.hid hra2
  have HRB := Lib.hid hrb
  have HBN := Lib.hid hB
  clear hra hrb hb0 hb2 hz0 hz2 hbw hra2 hB hC H
  have hends : ∀ w', Below w0.heap.size w0 w' → HeadPost w (.returned (.bool true)) w' := fun w' hb' => ⟨rfl, by
    have h1 := HBW.out
    rw [← HBN.out] at h1
    exact h1.trans (hb'.mono HBlt.out.2.2)⟩
  have HENDS := Lib.hid hends
  clear hends
  have HI := Lib.hid hid
  unfold maxLen at hid
  go_wp2_with fail
  refine (head_any w0).mono ?_
  rintro en w1 ⟨rfl, hb1⟩
  have HB1 := Lib.hid hb1
  clear hb1
  go_upto_region 2 with fail
  simp only [List.append_eq, List.cons_append, List.nil_append]
  go_cut [89] (fun s89 wx => ∃ r : Bool, s89 = .bool r ∧ Below w0.heap.size w0 wx ∧ (r = false → es.length ≤ 40 ∧ Good ⟨op, aid, aother, aobj, c3, c4, c5, c6, c7, c8, c10, c11, c12, c13, c14⟩ ⟨op', bid, bother, bobj, d3, d4, d5, d6, d7, d8, d10, d11, d12, d13, d14⟩))
  case first =>
    go_wp2_with fail
    refine (few_any w1 v es 40 (HH.out.turn HB1.out) (by omega)).mono ?_
    rintro en w2 ⟨bf, rfl, hfew, rfl⟩
    cases bf with
    | false =>
      clear hfew
      go_wp2_with fail
      go_meet
      exact ⟨true, rfl, HB1.out, fun h => by cases h⟩
    | true =>
      have hlen := hfew rfl
      clear hfew
      have HRA1 : Hid (w1.rangeAt B 0 [.int .i64 op, .string aid, .string aother, c3, c4, c5, c6, c7, c8, .string aobj, c10, c11, c12, c13, c14]) := Lib.hid (rangeAt_turn HRA.out (HB1.out.block B HBlt.out.1))
      have HRB1 : Hid (w1.rangeAt (B + 1) 0 [.int .i64 op', .string bid, .string bother, d3, d4, d5, d6, d7, d8, .string bobj, d10, d11, d12, d13, d14]) := Lib.hid (rangeAt_turn HRB.out (HB1.out.block (B + 1) HBlt.out.2.1))
      go_wp2_with ((with_reducible refine at_load38 _ rfl ?_); first | refine wpList_load_want rfl 38 _ rfl B 0 rfl _ _ HRA1.out Try.underlying38 rfl info38 ?_ | refine wpList_load_want rfl 38 _ rfl (B + 1) 0 rfl _ _ HRB1.out Try.underlying38 rfl info38 ?_)
      have hel := eds_lit w1 [⟨op, aid, aother, aobj, c3, c4, c5, c6, c7, c8, c10, c11, c12, c13, c14⟩, ⟨op', bid, bother, bobj, d3, d4, d5, d6, d7, d8, d10, d11, d12, d13, d14⟩] (by intro e he; rcases List.mem_cons.1 he with rfl | he; exact HOA.out; rw [List.mem_singleton.1 he]; exact HOB.out) (show 2 ≤ maxLen by decide) [.int .i64 op, .string aid, .string aother, c3, c4, c5, c6, c7, c8, .string aobj, c10, c11, c12, c13, c14, .int .i64 op', .string bid, .string bother, d3, d4, d5, d6, d7, d8, .string bobj, d10, d11, d12, d13, d14] rfl 38
      have hb2 := boxed_below w1 (.cells (#[.int .i64 op, .string aid, .string aother, c3, c4, c5, c6, c7, c8, .string aobj, c10, c11, c12, c13, c14, .int .i64 op', .string bid, .string bother, d3, d4, d5, d6, d7, d8, .string bobj, d10, d11, d12, d13, d14]) 38)
      refine (few_any _ _ [⟨op, aid, aother, aobj, c3, c4, c5, c6, c7, c8, c10, c11, c12, c13, c14⟩, ⟨op', bid, bother, bobj, d3, d4, d5, d6, d7, d8, d10, d11, d12, d13, d14⟩] 2 hel (by omega)).mono ?_
      rintro en w2 ⟨bf, rfl, hfew, rfl⟩
      clear hel hfew
      generalize World.alloc w1 _ = w1' at *
      have HB2 : Hid (Below w0.heap.size w0 w1') := Lib.hid (HB1.out.trans (hb2.mono HB1.out.size))
      clear hb2
      cases bf with
      | false =>
        go_wp2_with fail
        go_meet
        exact ⟨true, rfl, HB2.out, fun h => by cases h⟩
      | true =>
        by_cases t0 : 100 < id.size
        · have b0 : decide (100 < id.size) = true := by simp; omega
          have b0' : decide ((100 : Int) < (id.size : Int)) = true := by simp; omega
          go_wp2_with fail
          go_meet
          exact ⟨true, rfl, HB2.out, fun h => by cases h⟩
        have b0 : decide (100 < id.size) = false := by simp; omega
        have b0' : decide ((100 : Int) < (id.size : Int)) = false := by simp; omega
        clear HRA1 HRB1
        have HRA1 : Hid (w1'.rangeAt B 0 _) := Lib.hid (rangeAt_turn HRA.out (HB2.out.block B HBlt.out.1))
        have HRB1 : Hid (w1'.rangeAt (B + 1) 0 _) := Lib.hid (rangeAt_turn HRB.out (HB2.out.block (B + 1) HBlt.out.2.1))
        go_wp2_with ((with_reducible refine at_load38 _ rfl ?_); first | refine wpList_load_want rfl 38 _ rfl B 0 rfl _ _ HRA1.out Try.underlying38 rfl info38 ?_ | refine wpList_load_want rfl 38 _ rfl (B + 1) 0 rfl _ _ HRB1.out Try.underlying38 rfl info38 ?_)
        clear b0 b0'
        refine (apart_any w1' ⟨op, aid, aother, aobj, c3, c4, c5, c6, c7, c8, c10, c11, c12, c13, c14⟩ ⟨op', bid, bother, bobj, d3, d4, d5, d6, d7, d8, d10, d11, d12, d13, d14⟩).mono ?_
        rintro en w3 ⟨r, rfl, hb3, hA⟩
        have HA := Lib.hid hA
        have HB3 : Hid (Below w0.heap.size w0 w3) := Lib.hid (HB2.out.trans (hb3.mono HB2.out.size))
        clear hA hb3
        cases r with
        | false =>
          go_wp2_with fail
          go_meet
          exact ⟨true, rfl, HB3.out, fun h => by cases h⟩
        | true =>
          have hr3 := rangeAt_turn HRA.out (HB3.out.block B HBlt.out.1)
          have hs3 := rangeAt_turn HRB.out (HB3.out.block (B + 1) HBlt.out.2.1)
          have a0 : w3.cell? ⟨B, 0, none⟩ = some (.int .i64 op) := hr3 0 _ rfl
          have a1 : w3.cell? ⟨B, 1, none⟩ = some (.string aid) := hr3 1 _ rfl
          have a2 : w3.cell? ⟨B, 2, none⟩ = some (.string aother) := hr3 2 _ rfl
          have a9 : w3.cell? ⟨B, 9, none⟩ = some (.string aobj) := hr3 9 _ rfl
          have z0 : w3.cell? ⟨B + 1, 0, none⟩ = some (.int .i64 op') := hs3 0 _ rfl
          have z1 : w3.cell? ⟨B + 1, 1, none⟩ = some (.string bid) := hs3 1 _ rfl
          have z2 : w3.cell? ⟨B + 1, 2, none⟩ = some (.string bother) := hs3 2 _ rfl
          have z9 : w3.cell? ⟨B + 1, 9, none⟩ = some (.string bobj) := hs3 9 _ rfl
          clear hr3 hs3
          have HA2 := Lib.hid (HA.out rfl)
          clear HA
          cases q0 : (aid.toList.isEmpty) with
          | false =>
            cases q1 : (aother.toList.isEmpty) with
            | false =>
              cases q2 : (bother.toList.isEmpty) with
              | false =>
                cases q3 : (op == 1) with
                | false =>
                  cases q4 : (op' == 1) with
                  | false =>
                    go_wp2_with fail
                    go_meet
                    exact ⟨false, rfl, HB3.out, fun _ => ⟨hlen, good_of HA2.out (fun h => not_tf q0 h.1) (fun h => not_tf q1 h.1) (fun h => not_tf q2 h.1) (fun h => not_tf q3 (beq_iff_eq.2 h.1)) (fun h => not_tf q4 (beq_iff_eq.2 h.1))⟩⟩
                  | true =>
                    obtain rfl : op' = 1 := beq_iff_eq.1 q4
                    clear q4
                    cases r4 : (bobj.toList.isEmpty) with
                    | false =>
                      go_wp2_with fail
                      go_meet
                      exact ⟨false, rfl, HB3.out, fun _ => ⟨hlen, good_of HA2.out (fun h => not_tf q0 h.1) (fun h => not_tf q1 h.1) (fun h => not_tf q2 h.1) (fun h => not_tf q3 (beq_iff_eq.2 h.1)) (fun h => not_tf r4 h.2)⟩⟩
                    | true =>
                      go_wp2_with fail
                      go_meet
                      exact ⟨true, rfl, HB3.out, fun h => by cases h⟩
                | true =>
                  obtain rfl : op = 1 := beq_iff_eq.1 q3
                  clear q3
                  cases r3 : (aobj.toList.isEmpty) with
                  | false =>
                    cases q4 : (op' == 1) with
                    | false =>
                      go_wp2_with fail
                      go_meet
                      exact ⟨false, rfl, HB3.out, fun _ => ⟨hlen, good_of HA2.out (fun h => not_tf q0 h.1) (fun h => not_tf q1 h.1) (fun h => not_tf q2 h.1) (fun h => not_tf r3 h.2) (fun h => not_tf q4 (beq_iff_eq.2 h.1))⟩⟩
                    | true =>
                      obtain rfl : op' = 1 := beq_iff_eq.1 q4
                      clear q4
                      cases r4 : (bobj.toList.isEmpty) with
                      | false =>
                        go_wp2_with fail
                        go_meet
                        exact ⟨false, rfl, HB3.out, fun _ => ⟨hlen, good_of HA2.out (fun h => not_tf q0 h.1) (fun h => not_tf q1 h.1) (fun h => not_tf q2 h.1) (fun h => not_tf r3 h.2) (fun h => not_tf r4 h.2)⟩⟩
                      | true =>
                        go_wp2_with fail
                        go_meet
                        exact ⟨true, rfl, HB3.out, fun h => by cases h⟩
                  | true =>
                    go_wp2_with fail
                    go_meet
                    exact ⟨true, rfl, HB3.out, fun h => by cases h⟩
              | true =>
                cases r2 : (decide (6 ≤ op')) with
                | false =>
                  cases q3 : (op == 1) with
                  | false =>
                    cases q4 : (op' == 1) with
                    | false =>
                      go_wp2_with fail
                      go_meet
                      exact ⟨false, rfl, HB3.out, fun _ => ⟨hlen, good_of HA2.out (fun h => not_tf q0 h.1) (fun h => not_tf q1 h.1) (fun h => not_tf r2 (decide_eq_true h.2)) (fun h => not_tf q3 (beq_iff_eq.2 h.1)) (fun h => not_tf q4 (beq_iff_eq.2 h.1))⟩⟩
                    | true =>
                      obtain rfl : op' = 1 := beq_iff_eq.1 q4
                      clear q4
                      cases r4 : (bobj.toList.isEmpty) with
                      | false =>
                        go_wp2_with fail
                        go_meet
                        exact ⟨false, rfl, HB3.out, fun _ => ⟨hlen, good_of HA2.out (fun h => not_tf q0 h.1) (fun h => not_tf q1 h.1) (fun h => not_tf r2 (decide_eq_true h.2)) (fun h => not_tf q3 (beq_iff_eq.2 h.1)) (fun h => not_tf r4 h.2)⟩⟩
                      | true =>
                        go_wp2_with fail
                        go_meet
                        exact ⟨true, rfl, HB3.out, fun h => by cases h⟩
                  | true =>
                    obtain rfl : op = 1 := beq_iff_eq.1 q3
                    clear q3
                    cases r3 : (aobj.toList.isEmpty) with
                    | false =>
                      cases q4 : (op' == 1) with
                      | false =>
                        go_wp2_with fail
                        go_meet
                        exact ⟨false, rfl, HB3.out, fun _ => ⟨hlen, good_of HA2.out (fun h => not_tf q0 h.1) (fun h => not_tf q1 h.1) (fun h => not_tf r2 (decide_eq_true h.2)) (fun h => not_tf r3 h.2) (fun h => not_tf q4 (beq_iff_eq.2 h.1))⟩⟩
                      | true =>
                        obtain rfl : op' = 1 := beq_iff_eq.1 q4
                        clear q4
                        cases r4 : (bobj.toList.isEmpty) with
                        | false =>
                          go_wp2_with fail
                          go_meet
                          exact ⟨false, rfl, HB3.out, fun _ => ⟨hlen, good_of HA2.out (fun h => not_tf q0 h.1) (fun h => not_tf q1 h.1) (fun h => not_tf r2 (decide_eq_true h.2)) (fun h => not_tf r3 h.2) (fun h => not_tf r4 h.2)⟩⟩
                        | true =>
                          go_wp2_with fail
                          go_meet
                          exact ⟨true, rfl, HB3.out, fun h => by cases h⟩
                    | true =>
                      go_wp2_with fail
                      go_meet
                      exact ⟨true, rfl, HB3.out, fun h => by cases h⟩
                | true =>
                  go_wp2_with fail
                  go_meet
                  exact ⟨true, rfl, HB3.out, fun h => by cases h⟩
            | true =>
              cases r1 : (decide (6 ≤ op)) with
              | false =>
                cases q2 : (bother.toList.isEmpty) with
                | false =>
                  cases q3 : (op == 1) with
                  | false =>
                    cases q4 : (op' == 1) with
                    | false =>
                      go_wp2_with fail
                      go_meet
                      exact ⟨false, rfl, HB3.out, fun _ => ⟨hlen, good_of HA2.out (fun h => not_tf q0 h.1) (fun h => not_tf r1 (decide_eq_true h.2)) (fun h => not_tf q2 h.1) (fun h => not_tf q3 (beq_iff_eq.2 h.1)) (fun h => not_tf q4 (beq_iff_eq.2 h.1))⟩⟩
                    | true =>
                      obtain rfl : op' = 1 := beq_iff_eq.1 q4
                      clear q4
                      cases r4 : (bobj.toList.isEmpty) with
                      | false =>
                        go_wp2_with fail
                        go_meet
                        exact ⟨false, rfl, HB3.out, fun _ => ⟨hlen, good_of HA2.out (fun h => not_tf q0 h.1) (fun h => not_tf r1 (decide_eq_true h.2)) (fun h => not_tf q2 h.1) (fun h => not_tf q3 (beq_iff_eq.2 h.1)) (fun h => not_tf r4 h.2)⟩⟩
                      | true =>
                        go_wp2_with fail
                        go_meet
                        exact ⟨true, rfl, HB3.out, fun h => by cases h⟩
                  | true =>
                    obtain rfl : op = 1 := beq_iff_eq.1 q3
                    clear q3
                    cases r3 : (aobj.toList.isEmpty) with
                    | false =>
                      cases q4 : (op' == 1) with
                      | false =>
                        go_wp2_with fail
                        go_meet
                        exact ⟨false, rfl, HB3.out, fun _ => ⟨hlen, good_of HA2.out (fun h => not_tf q0 h.1) (fun h => not_tf r1 (decide_eq_true h.2)) (fun h => not_tf q2 h.1) (fun h => not_tf r3 h.2) (fun h => not_tf q4 (beq_iff_eq.2 h.1))⟩⟩
                      | true =>
                        obtain rfl : op' = 1 := beq_iff_eq.1 q4
                        clear q4
                        cases r4 : (bobj.toList.isEmpty) with
                        | false =>
                          go_wp2_with fail
                          go_meet
                          exact ⟨false, rfl, HB3.out, fun _ => ⟨hlen, good_of HA2.out (fun h => not_tf q0 h.1) (fun h => not_tf r1 (decide_eq_true h.2)) (fun h => not_tf q2 h.1) (fun h => not_tf r3 h.2) (fun h => not_tf r4 h.2)⟩⟩
                        | true =>
                          go_wp2_with fail
                          go_meet
                          exact ⟨true, rfl, HB3.out, fun h => by cases h⟩
                    | true =>
                      go_wp2_with fail
                      go_meet
                      exact ⟨true, rfl, HB3.out, fun h => by cases h⟩
                | true =>
                  cases r2 : (decide (6 ≤ op')) with
                  | false =>
                    cases q3 : (op == 1) with
                    | false =>
                      cases q4 : (op' == 1) with
                      | false =>
                        go_wp2_with fail
                        go_meet
                        exact ⟨false, rfl, HB3.out, fun _ => ⟨hlen, good_of HA2.out (fun h => not_tf q0 h.1) (fun h => not_tf r1 (decide_eq_true h.2)) (fun h => not_tf r2 (decide_eq_true h.2)) (fun h => not_tf q3 (beq_iff_eq.2 h.1)) (fun h => not_tf q4 (beq_iff_eq.2 h.1))⟩⟩
                      | true =>
                        obtain rfl : op' = 1 := beq_iff_eq.1 q4
                        clear q4
                        cases r4 : (bobj.toList.isEmpty) with
                        | false =>
                          go_wp2_with fail
                          go_meet
                          exact ⟨false, rfl, HB3.out, fun _ => ⟨hlen, good_of HA2.out (fun h => not_tf q0 h.1) (fun h => not_tf r1 (decide_eq_true h.2)) (fun h => not_tf r2 (decide_eq_true h.2)) (fun h => not_tf q3 (beq_iff_eq.2 h.1)) (fun h => not_tf r4 h.2)⟩⟩
                        | true =>
                          go_wp2_with fail
                          go_meet
                          exact ⟨true, rfl, HB3.out, fun h => by cases h⟩
                    | true =>
                      obtain rfl : op = 1 := beq_iff_eq.1 q3
                      clear q3
                      cases r3 : (aobj.toList.isEmpty) with
                      | false =>
                        cases q4 : (op' == 1) with
                        | false =>
                          go_wp2_with fail
                          go_meet
                          exact ⟨false, rfl, HB3.out, fun _ => ⟨hlen, good_of HA2.out (fun h => not_tf q0 h.1) (fun h => not_tf r1 (decide_eq_true h.2)) (fun h => not_tf r2 (decide_eq_true h.2)) (fun h => not_tf r3 h.2) (fun h => not_tf q4 (beq_iff_eq.2 h.1))⟩⟩
                        | true =>
                          obtain rfl : op' = 1 := beq_iff_eq.1 q4
                          clear q4
                          cases r4 : (bobj.toList.isEmpty) with
                          | false =>
                            go_wp2_with fail
                            go_meet
                            exact ⟨false, rfl, HB3.out, fun _ => ⟨hlen, good_of HA2.out (fun h => not_tf q0 h.1) (fun h => not_tf r1 (decide_eq_true h.2)) (fun h => not_tf r2 (decide_eq_true h.2)) (fun h => not_tf r3 h.2) (fun h => not_tf r4 h.2)⟩⟩
                          | true =>
                            go_wp2_with fail
                            go_meet
                            exact ⟨true, rfl, HB3.out, fun h => by cases h⟩
                      | true =>
                        go_wp2_with fail
                        go_meet
                        exact ⟨true, rfl, HB3.out, fun h => by cases h⟩
                  | true =>
                    go_wp2_with fail
                    go_meet
                    exact ⟨true, rfl, HB3.out, fun h => by cases h⟩
              | true =>
                go_wp2_with fail
                go_meet
                exact ⟨true, rfl, HB3.out, fun h => by cases h⟩
          | true =>
            cases r0 : (bid.toList.isEmpty) with
            | false =>
              cases q1 : (aother.toList.isEmpty) with
              | false =>
                cases q2 : (bother.toList.isEmpty) with
                | false =>
                  cases q3 : (op == 1) with
                  | false =>
                    cases q4 : (op' == 1) with
                    | false =>
                      go_wp2_with fail
                      go_meet
                      exact ⟨false, rfl, HB3.out, fun _ => ⟨hlen, good_of HA2.out (fun h => not_tf r0 h.2) (fun h => not_tf q1 h.1) (fun h => not_tf q2 h.1) (fun h => not_tf q3 (beq_iff_eq.2 h.1)) (fun h => not_tf q4 (beq_iff_eq.2 h.1))⟩⟩
                    | true =>
                      obtain rfl : op' = 1 := beq_iff_eq.1 q4
                      clear q4
                      cases r4 : (bobj.toList.isEmpty) with
                      | false =>
                        go_wp2_with fail
                        go_meet
                        exact ⟨false, rfl, HB3.out, fun _ => ⟨hlen, good_of HA2.out (fun h => not_tf r0 h.2) (fun h => not_tf q1 h.1) (fun h => not_tf q2 h.1) (fun h => not_tf q3 (beq_iff_eq.2 h.1)) (fun h => not_tf r4 h.2)⟩⟩
                      | true =>
                        go_wp2_with fail
                        go_meet
                        exact ⟨true, rfl, HB3.out, fun h => by cases h⟩
                  | true =>
                    obtain rfl : op = 1 := beq_iff_eq.1 q3
                    clear q3
                    cases r3 : (aobj.toList.isEmpty) with
                    | false =>
                      cases q4 : (op' == 1) with
                      | false =>
                        go_wp2_with fail
                        go_meet
                        exact ⟨false, rfl, HB3.out, fun _ => ⟨hlen, good_of HA2.out (fun h => not_tf r0 h.2) (fun h => not_tf q1 h.1) (fun h => not_tf q2 h.1) (fun h => not_tf r3 h.2) (fun h => not_tf q4 (beq_iff_eq.2 h.1))⟩⟩
                      | true =>
                        obtain rfl : op' = 1 := beq_iff_eq.1 q4
                        clear q4
                        cases r4 : (bobj.toList.isEmpty) with
                        | false =>
                          go_wp2_with fail
                          go_meet
                          exact ⟨false, rfl, HB3.out, fun _ => ⟨hlen, good_of HA2.out (fun h => not_tf r0 h.2) (fun h => not_tf q1 h.1) (fun h => not_tf q2 h.1) (fun h => not_tf r3 h.2) (fun h => not_tf r4 h.2)⟩⟩
                        | true =>
                          go_wp2_with fail
                          go_meet
                          exact ⟨true, rfl, HB3.out, fun h => by cases h⟩
                    | true =>
                      go_wp2_with fail
                      go_meet
                      exact ⟨true, rfl, HB3.out, fun h => by cases h⟩
                | true =>
                  cases r2 : (decide (6 ≤ op')) with
                  | false =>
                    cases q3 : (op == 1) with
                    | false =>
                      cases q4 : (op' == 1) with
                      | false =>
                        go_wp2_with fail
                        go_meet
                        exact ⟨false, rfl, HB3.out, fun _ => ⟨hlen, good_of HA2.out (fun h => not_tf r0 h.2) (fun h => not_tf q1 h.1) (fun h => not_tf r2 (decide_eq_true h.2)) (fun h => not_tf q3 (beq_iff_eq.2 h.1)) (fun h => not_tf q4 (beq_iff_eq.2 h.1))⟩⟩
                      | true =>
                        obtain rfl : op' = 1 := beq_iff_eq.1 q4
                        clear q4
                        cases r4 : (bobj.toList.isEmpty) with
                        | false =>
                          go_wp2_with fail
                          go_meet
                          exact ⟨false, rfl, HB3.out, fun _ => ⟨hlen, good_of HA2.out (fun h => not_tf r0 h.2) (fun h => not_tf q1 h.1) (fun h => not_tf r2 (decide_eq_true h.2)) (fun h => not_tf q3 (beq_iff_eq.2 h.1)) (fun h => not_tf r4 h.2)⟩⟩
                        | true =>
                          go_wp2_with fail
                          go_meet
                          exact ⟨true, rfl, HB3.out, fun h => by cases h⟩
                    | true =>
                      obtain rfl : op = 1 := beq_iff_eq.1 q3
                      clear q3
                      cases r3 : (aobj.toList.isEmpty) with
                      | false =>
                        cases q4 : (op' == 1) with
                        | false =>
                          go_wp2_with fail
                          go_meet
                          exact ⟨false, rfl, HB3.out, fun _ => ⟨hlen, good_of HA2.out (fun h => not_tf r0 h.2) (fun h => not_tf q1 h.1) (fun h => not_tf r2 (decide_eq_true h.2)) (fun h => not_tf r3 h.2) (fun h => not_tf q4 (beq_iff_eq.2 h.1))⟩⟩
                        | true =>
                          obtain rfl : op' = 1 := beq_iff_eq.1 q4
                          clear q4
                          cases r4 : (bobj.toList.isEmpty) with
                          | false =>
                            go_wp2_with fail
                            go_meet
                            exact ⟨false, rfl, HB3.out, fun _ => ⟨hlen, good_of HA2.out (fun h => not_tf r0 h.2) (fun h => not_tf q1 h.1) (fun h => not_tf r2 (decide_eq_true h.2)) (fun h => not_tf r3 h.2) (fun h => not_tf r4 h.2)⟩⟩
                          | true =>
                            go_wp2_with fail
                            go_meet
                            exact ⟨true, rfl, HB3.out, fun h => by cases h⟩
                      | true =>
                        go_wp2_with fail
                        go_meet
                        exact ⟨true, rfl, HB3.out, fun h => by cases h⟩
                  | true =>
                    go_wp2_with fail
                    go_meet
                    exact ⟨true, rfl, HB3.out, fun h => by cases h⟩
              | true =>
                cases r1 : (decide (6 ≤ op)) with
                | false =>
                  cases q2 : (bother.toList.isEmpty) with
                  | false =>
                    cases q3 : (op == 1) with
                    | false =>
                      cases q4 : (op' == 1) with
                      | false =>
                        go_wp2_with fail
                        go_meet
                        exact ⟨false, rfl, HB3.out, fun _ => ⟨hlen, good_of HA2.out (fun h => not_tf r0 h.2) (fun h => not_tf r1 (decide_eq_true h.2)) (fun h => not_tf q2 h.1) (fun h => not_tf q3 (beq_iff_eq.2 h.1)) (fun h => not_tf q4 (beq_iff_eq.2 h.1))⟩⟩
                      | true =>
                        obtain rfl : op' = 1 := beq_iff_eq.1 q4
                        clear q4
                        cases r4 : (bobj.toList.isEmpty) with
                        | false =>
                          go_wp2_with fail
                          go_meet
                          exact ⟨false, rfl, HB3.out, fun _ => ⟨hlen, good_of HA2.out (fun h => not_tf r0 h.2) (fun h => not_tf r1 (decide_eq_true h.2)) (fun h => not_tf q2 h.1) (fun h => not_tf q3 (beq_iff_eq.2 h.1)) (fun h => not_tf r4 h.2)⟩⟩
                        | true =>
                          go_wp2_with fail
                          go_meet
                          exact ⟨true, rfl, HB3.out, fun h => by cases h⟩
                    | true =>
                      obtain rfl : op = 1 := beq_iff_eq.1 q3
                      clear q3
                      cases r3 : (aobj.toList.isEmpty) with
                      | false =>
                        cases q4 : (op' == 1) with
                        | false =>
                          go_wp2_with fail
                          go_meet
                          exact ⟨false, rfl, HB3.out, fun _ => ⟨hlen, good_of HA2.out (fun h => not_tf r0 h.2) (fun h => not_tf r1 (decide_eq_true h.2)) (fun h => not_tf q2 h.1) (fun h => not_tf r3 h.2) (fun h => not_tf q4 (beq_iff_eq.2 h.1))⟩⟩
                        | true =>
                          obtain rfl : op' = 1 := beq_iff_eq.1 q4
                          clear q4
                          cases r4 : (bobj.toList.isEmpty) with
                          | false =>
                            go_wp2_with fail
                            go_meet
                            exact ⟨false, rfl, HB3.out, fun _ => ⟨hlen, good_of HA2.out (fun h => not_tf r0 h.2) (fun h => not_tf r1 (decide_eq_true h.2)) (fun h => not_tf q2 h.1) (fun h => not_tf r3 h.2) (fun h => not_tf r4 h.2)⟩⟩
                          | true =>
                            go_wp2_with fail
                            go_meet
                            exact ⟨true, rfl, HB3.out, fun h => by cases h⟩
                      | true =>
                        go_wp2_with fail
                        go_meet
                        exact ⟨true, rfl, HB3.out, fun h => by cases h⟩
                  | true =>
                    cases r2 : (decide (6 ≤ op')) with
                    | false =>
                      cases q3 : (op == 1) with
                      | false =>
                        cases q4 : (op' == 1) with
                        | false =>
                          go_wp2_with fail
                          go_meet
                          exact ⟨false, rfl, HB3.out, fun _ => ⟨hlen, good_of HA2.out (fun h => not_tf r0 h.2) (fun h => not_tf r1 (decide_eq_true h.2)) (fun h => not_tf r2 (decide_eq_true h.2)) (fun h => not_tf q3 (beq_iff_eq.2 h.1)) (fun h => not_tf q4 (beq_iff_eq.2 h.1))⟩⟩
                        | true =>
                          obtain rfl : op' = 1 := beq_iff_eq.1 q4
                          clear q4
                          cases r4 : (bobj.toList.isEmpty) with
                          | false =>
                            go_wp2_with fail
                            go_meet
                            exact ⟨false, rfl, HB3.out, fun _ => ⟨hlen, good_of HA2.out (fun h => not_tf r0 h.2) (fun h => not_tf r1 (decide_eq_true h.2)) (fun h => not_tf r2 (decide_eq_true h.2)) (fun h => not_tf q3 (beq_iff_eq.2 h.1)) (fun h => not_tf r4 h.2)⟩⟩
                          | true =>
                            go_wp2_with fail
                            go_meet
                            exact ⟨true, rfl, HB3.out, fun h => by cases h⟩
                      | true =>
                        obtain rfl : op = 1 := beq_iff_eq.1 q3
                        clear q3
                        cases r3 : (aobj.toList.isEmpty) with
                        | false =>
                          cases q4 : (op' == 1) with
                          | false =>
                            go_wp2_with fail
                            go_meet
                            exact ⟨false, rfl, HB3.out, fun _ => ⟨hlen, good_of HA2.out (fun h => not_tf r0 h.2) (fun h => not_tf r1 (decide_eq_true h.2)) (fun h => not_tf r2 (decide_eq_true h.2)) (fun h => not_tf r3 h.2) (fun h => not_tf q4 (beq_iff_eq.2 h.1))⟩⟩
                          | true =>
                            obtain rfl : op' = 1 := beq_iff_eq.1 q4
                            clear q4
                            cases r4 : (bobj.toList.isEmpty) with
                            | false =>
                              go_wp2_with fail
                              go_meet
                              exact ⟨false, rfl, HB3.out, fun _ => ⟨hlen, good_of HA2.out (fun h => not_tf r0 h.2) (fun h => not_tf r1 (decide_eq_true h.2)) (fun h => not_tf r2 (decide_eq_true h.2)) (fun h => not_tf r3 h.2) (fun h => not_tf r4 h.2)⟩⟩
                            | true =>
                              go_wp2_with fail
                              go_meet
                              exact ⟨true, rfl, HB3.out, fun h => by cases h⟩
                        | true =>
                          go_wp2_with fail
                          go_meet
                          exact ⟨true, rfl, HB3.out, fun h => by cases h⟩
                    | true =>
                      go_wp2_with fail
                      go_meet
                      exact ⟨true, rfl, HB3.out, fun h => by cases h⟩
                | true =>
                  go_wp2_with fail
                  go_meet
                  exact ⟨true, rfl, HB3.out, fun h => by cases h⟩
            | true =>
              go_wp2_with fail
              go_meet
              exact ⟨true, rfl, HB3.out, fun h => by cases h⟩
  case rest =>
    obtain ⟨r, rfl, hbx, hgood⟩ := hcut
    cases r with
    | true =>
      have HFIN := Lib.hid (HENDS.out _ hbx)
      clear hgood hbx
      go_wp2_with fail
      go_ret
      exact HFIN.out
    | false =>
      obtain ⟨hlen, hg⟩ := hgood rfl
      have HG := Lib.hid hg
      clear hgood hg hid
      go_wp2_with fail
      refine (start_followed w0 wc hbx v es HH.out (by omega)).mono ?_
      rintro en w2 ⟨x, rfl, hE⟩
      clear hbx
      go_wp2_with fail
      refine (hE.second_followed v es HH.out (by omega) (by omega)).mono ?_
      rintro en w3 ⟨y, rfl, hE⟩
      generalize runS (fun _ => none) es = st at *
      have hlaw := commutes_law (st := st) HG.out
      generalize hEA : EdC.ed ⟨op, aid, aother, aobj, c3, c4, c5, c6, c7, c8, c10, c11, c12, c13, c14⟩ = ea at hlaw
      generalize hEB : EdC.ed ⟨op', bid, bother, bobj, d3, d4, d5, d6, d7, d8, d10, d11, d12, d13, d14⟩ = eb at hlaw
      have HEA := Lib.hid hEA
      have HEB := Lib.hid hEB
      clear hEA hEB
      have HL1 := Lib.hid hlaw.1
      have HL2 := Lib.hid hlaw.2.1
      have HL3 := Lib.hid hlaw.2.2
      clear hlaw
      have HR3 : Hid (w3.rangeAt B 0 [.int .i64 op, .string aid, .string aother, c3, c4, c5, c6, c7, c8, .string aobj, c10, c11, c12, c13, c14]) := Lib.hid (rangeAt_turn HRA.out (hE.old.block B HBlt.out.1))
      go_wp2_with ((with_reducible refine at_load38 _ rfl ?_); refine wpList_load_want rfl 38 _ rfl B 0 rfl _ _ HR3.out Try.underlying38 rfl info38 ?_)
      refine (hE.follow_is (by omega) ⟨op, aid, aother, aobj, c3, c4, c5, c6, c7, c8, c10, c11, c12, c13, c14⟩ HOA.out ea HEA.out).mono ?_
      rintro en w4 ⟨rfl, hE⟩
      have HR4 : Hid (w4.rangeAt (B + 1) 0 [.int .i64 op', .string bid, .string bother, d3, d4, d5, d6, d7, d8, .string bobj, d10, d11, d12, d13, d14]) := Lib.hid (rangeAt_turn HRB.out (hE.old.block (B + 1) HBlt.out.2.1))
      go_wp2_with ((with_reducible refine at_load38 _ rfl ?_); refine wpList_load_want rfl 38 _ rfl (B + 1) 0 rfl _ _ HR4.out Try.underlying38 rfl info38 ?_)
      refine (hE.follow_is (by omega) ⟨op', bid, bother, bobj, d3, d4, d5, d6, d7, d8, d10, d11, d12, d13, d14⟩ HOB.out eb HEB.out).mono ?_
      rintro en w5 ⟨rfl, hE⟩
      rw [HL2.out]
      have HR5 : Hid (w5.rangeAt (B + 1) 0 [.int .i64 op', .string bid, .string bother, d3, d4, d5, d6, d7, d8, .string bobj, d10, d11, d12, d13, d14]) := Lib.hid (rangeAt_turn HRB.out (hE.old.block (B + 1) HBlt.out.2.1))
      go_wp2_with ((with_reducible refine at_load38 _ rfl ?_); refine wpList_load_want rfl 38 _ rfl (B + 1) 0 rfl _ _ HR5.out Try.underlying38 rfl info38 ?_)
      refine (hE.swap.follow_is (by omega) ⟨op', bid, bother, bobj, d3, d4, d5, d6, d7, d8, d10, d11, d12, d13, d14⟩ HOB.out eb HEB.out).mono ?_
      rintro en w6 ⟨rfl, hE⟩
      have HR6 : Hid (w6.rangeAt B 0 [.int .i64 op, .string aid, .string aother, c3, c4, c5, c6, c7, c8, .string aobj, c10, c11, c12, c13, c14]) := Lib.hid (rangeAt_turn HRA.out (hE.old.block B HBlt.out.1))
      go_wp2_with ((with_reducible refine at_load38 _ rfl ?_); refine wpList_load_want rfl 38 _ rfl B 0 rfl _ _ HR6.out Try.underlying38 rfl info38 ?_)
      refine (hE.follow_is (by omega) ⟨op, aid, aother, aobj, c3, c4, c5, c6, c7, c8, c10, c11, c12, c13, c14⟩ HOA.out ea HEA.out).mono ?_
      rintro en w7 ⟨rfl, hE⟩
      rw [HL1.out]
      have hE := hE.swap
      generalize step (step st ea) eb = s1 at *
      generalize step (step st eb) ea = s2 at *
      generalize err st ea = c1 at *
      generalize err st eb = c2 at *
      go_wp2_with fail
      refine (hE.now (by omega) id HI.out).mono ?_
      rintro en w8 ⟨v1, ks, rfl, hE, hp, hm⟩
      have HM := Lib.hid hm
      have HP := Lib.hid hp
      clear hm hp
      go_wp2_with fail
      refine (hE.swap.now (by omega) id HI.out).mono ?_
      rintro en w9 ⟨v2, ls, rfl, hE, hp2, hm2⟩
      obtain rfl : ls = ks := eq_of_rising hp2 HP.out (fun k => by rw [hm2 k, HM.out k, HL3.out])
      clear hm2 hp2 HM HP
      go_wp2_with fail
      refine (hE.same (.tail _ (.head _)) (.head _)).mono ?_
      rintro en w10 ⟨r, rfl, hr, hE⟩
      obtain rfl : r = true := hr.2 rfl
      clear hr
      have hE := hE.swap
      go_wp2_with fail
      refine (hE.then_ (by omega) id HI.out).mono ?_
      rintro en w11 ⟨v3, ks, rfl, hE, hp, hm⟩
      have HM := Lib.hid hm
      have HP := Lib.hid hp
      clear hm hp
      go_wp2_with fail
      refine (hE.swap.then_ (by omega) id HI.out).mono ?_
      rintro en w12 ⟨v4, ms, rfl, hE, hp2, hm2⟩
      obtain rfl : ms = ks := eq_of_rising hp2 HP.out (fun k => by rw [hm2 k, HM.out k, HL3.out])
      clear hm2 hp2 HM HP
      go_wp2_with fail
      refine (hE.same (.tail _ (.head _)) (.head _)).mono ?_
      rintro en w13 ⟨r, rfl, hr, hE⟩
      obtain rfl : r = true := hr.2 rfl
      clear hr
      have HFIN := Lib.hid (HENDS.out _ hE.old)
      clear hE
      go_wp2_with fail
      go_ret
      exact HFIN.out

end Go.Proofs.Ytkbjfmlfmmmknaa
