/- Follow, on its way: what holds of the world while its edit lies boxed; laws at the operations. -/
import Derived.Test.YtkbjfmlfmmmknaaLoop
namespace Go.Proofs.Ytkbjfmlfmmmknaa
open Go.RowKit Go.Maps Go.WideMaps Go.ChangeMaps

structure Sit (w0 W : World) (x : Nat) (F : Nat → Prop) (n : Nat) (st : St) (bo : Nat) (D : DataW Unit) (blk : Key → Nat) (eb : Nat) (op : Int) (id other obj : ByteArray) : Prop where
  lin : LinAt W x F n st bo D blk
  ed : EdAt W eb op id other obj
  nF : ¬ F eb
  tn : Turn (fun _ => False) w0 W

section
variable {w0 W W' : World} {x n bo eb : Nat} {F : Nat → Prop} {st : St} {D : DataW Unit} {blk : Key → Nat} {op : Int} {id other obj : ByteArray}

theorem Sit.step (h : Sit w0 W x F n st bo D blk eb op id other obj) (ht : Turn (fun _ => False) W W') : Sit w0 W' x F n st bo D blk eb op id other obj :=
  ⟨h.lin.turn ht (fun _ _ h => h), h.ed.turn ht (fun h => h), h.nF, h.tn.trans ht⟩
theorem Sit.drewN (h : Sit w0 W x F n st bo D blk eb op id other obj) (m : Nat) : Sit w0 (W.drewN m) x F n st bo D blk eb op id other obj := h.step (turn_drewN _ _ _)
theorem Sit.drew (h : Sit w0 W x F n st bo D blk eb op id other obj) : Sit w0 W.drew x F n st bo D blk eb op id other obj := h.step (Turn.drew _ _)
theorem Sit.grown (h : Sit w0 W x F n st bo D blk eb op id other obj) (hg : W.grownBy W' none) : Sit w0 W' x F n st bo D blk eb op id other obj := h.step (Turn.of_grown hg (fun i hi => by cases hi))

theorem sit_boxed (w : World) (h : LinAt w x F n st bo D blk) (c3 c4 c5 c6 c7 c8 c10 c11 c12 c13 c14 : Value) (m : Nat) :
    Sit w ((w.alloc (.cells #[.int .i64 op, .string id, .string other, c3, c4, c5, c6, c7, c8, .string obj, c10, c11, c12, c13, c14] 38)).drewN m) x F n st bo D blk w.heap.size op id other obj := by
  obtain ⟨h1, h2, h3, _⟩ := boxed w x n bo F st D blk h op id other obj c3 c4 c5 c6 c7 c8 c10 c11 c12 c13 c14 m
  exact ⟨h1, h2, h3, (Turn.alloc _ w _).trans (turn_drewN _ _ _)⟩
end

/-- s[k] = true at a set, at the operation. -/
theorem wpList_set_store {w : World} {b n : Nat} {S : Key → Bool} {ops : Array Oper} {rest : List Oper} {o : Oper} {a : Act} {Q : Exit → Act → World → Prop} (hg : o.guard = none) (m x v : Operand) (hop : o.op = Op.mapUpdate 60 m x v)
    (h : SetAt w b n S) (hm : a.eval m = .map (some b)) (s : ByteArray) (hx : a.eval x = .string s) (hv : a.eval v = .bool true) (hs : s.size ≤ maxLen) (hn : n < maxLen)
    (hK : ∀ w', SetAt w' b (n + 1) (fun j => S j || j == s.data.toList) → w.grownBy w' (some b) → wpList Try.prog ops Q rest (a.put o.dst undef) w') :
    wpList Try.prog ops Q (o :: rest) a w := by
  refine wpList_plain hg fun K' hK' => ?_
  obtain ⟨w', hrun, r1, r2⟩ := h.store hs hn
  unfold Oper.wp
  simp [execOp, hop, hm, hx, hv, hrun, Result.andThen]
  exact hK' _ _ (hK w' r1 r2)

/-- delete(s, k) at a set, at the operation. -/
theorem wpList_set_drop {w : World} {b n : Nat} {S : Key → Bool} {ops : Array Oper} {rest : List Oper} {o : Oper} {a : Act} {Q : Exit → Act → World → Prop} (hg : o.guard = none) (m x : Operand)
    (hop : o.op = Op.call { callee := Callee.builtin Builtin.delete, args := #[m, x], argTypes := #[60, 9] })
    (h : SetAt w b n S) (hm : a.eval m = .map (some b)) (s : ByteArray) (hx : a.eval x = .string s) (hs : s.size ≤ maxLen)
    (hK : ∀ w', SetAt w' b n (fun j => S j && !(j == s.data.toList)) → w.grownBy w' (some b) → wpList Try.prog ops Q rest (a.put o.dst (.tuple #[])) w') :
    wpList Try.prog ops Q (o :: rest) a w := by
  refine wpList_plain hg fun K' hK' => ?_
  obtain ⟨w', hrun, r1, r2⟩ := h.drop hs o.type
  unfold Oper.wp
  simp [execOp, hop, resolve, invoke, builtin, hm, hx, hrun, Result.andThen]
  exact hK' _ _ (hK w' r1 r2)

def FollowPost (w : World) (x : Nat) (F : Nat → Prop) (n : Nat) (st : St) (e : Ed) (en : Ending) (w' : World) : Prop :=
  en = .returned (.int .i64 (err st e)) ∧ ∃ F', Lin w' x F' (n + 4) (step st e) ∧ Turn F w w' ∧ ∀ i, F' i → F i ∨ w.heap.size ≤ i

theorem LinAt.look_any {w : World} {x n bo : Nat} {F : Nat → Prop} {st : St} {D : DataW Unit} {blk : Key → Nat} (h : LinAt w x F n st bo D blk) {s : ByteArray} (hs : s.size ≤ maxLen) :
    ∃ v ok, (Instr.lookup 53 (.map (some bo)) (.string s) true).run Try.prog w = .ok (.tuple #[.map v, .bool ok]) w := by
  cases hk : st s.data.toList with
  | none => exact ⟨_, _, h.look_none hs hk⟩
  | some S => exact ⟨_, _, h.look_some hs hk⟩

/-- The loop's relation. -/
def LoopR (e : Ed) (w0 : World) (x : Nat) (F : Nat → Prop) (N : Nat) (st : St) (bo : Nat) (D : DataW Unit) (blk : Key → Nat) (r eb : Nat) (op : Int) (id other obj : ByteArray) (wr : World) : Prop :=
  ∃ left cnt, LoopI e w0 wr x F N st bo D blk r left cnt ∧ EdAt wr eb op id other obj ∧ eb ≠ r ∧ ¬ F eb

/-- In a round: set b, which reads as S, is to be turned. -/
def Round (e : Ed) (w0 : World) (x : Nat) (F : Nat → Prop) (N : Nat) (st : St) (bo : Nat) (D : DataW Unit) (blk : Key → Nat) (r eb : Nat) (op : Int) (id other obj : ByteArray) (w' : World) (cnt b : Nat) (S : Key → Bool) : Prop :=
  ∃ k left, b = blk k ∧ LoopM e w0 w' x F N st bo D blk r left cnt k S ∧ EdAt w' eb op id other obj ∧ eb ≠ r ∧ ¬ F eb

section
variable {w0 W W' wr : World} {x n N bo eb r : Nat} {F F' : Nat → Prop} {st st' : St} {D D' : DataW Unit} {blk blk' : Key → Nat} {op : Int} {id other obj : ByteArray} {e : Ed}

/-- The range begins, the edit lying boxed. -/
theorem LoopR.start (hL : LinAt W x F N st bo D blk) (hE : EdAt W eb op id other obj) (hnF : ¬ F eb) (hg : W.grownBy W' none) (hrg : W'.ranges Try.prog 9 Rout bo W.heap.size N D (has D) (size D)) : LoopR e W' x F N st bo D blk W.heap.size eb op id other obj W' :=
  ⟨_, _, LoopI.start hL hg hrg, hE.turn (Turn.of_grown (F := fun _ => False) hg (fun i hi => by cases hi)) (fun h => h), by have := hE.lt; omega, hnF⟩

theorem Round.ed {cnt b : Nat} {S : Key → Bool} (h : Round e w0 x F N st bo D blk r eb op id other obj wr cnt b S) : EdAt wr eb op id other obj := by
  obtain ⟨_, _, _, _, h, _⟩ := h; exact h
theorem Round.own {cnt b : Nat} {S : Key → Bool} (h : Round e w0 x F N st bo D blk r eb op id other obj wr cnt b S) : SetAt wr b N S := by
  obtain ⟨k, _, rfl, h, _⟩ := h; exact h.own
theorem Round.fin {cnt b : Nat} {S : Key → Bool} (h : Round e w0 x F N st bo D blk r eb op id other obj wr cnt b S) (hg : wr.grownBy W' (some b)) (hs : SetAt W' b (N + 1) (upd e S)) :
    LoopR e w0 x F N st bo D blk r eb op id other obj W' ∧ W'.rangeLeft bo r = cnt := by
  obtain ⟨k, left, rfl, hM, hE, h1, h2⟩ := h
  obtain ⟨_, hl⟩ := hM.lin
  have hI := hM.fin hg hs
  refine ⟨⟨_, _, hI, hE.turn (F := fun i => i = blk k) (Turn.of_grown hg (fun i hi => by cases hi; rfl)) (fun e => h2 (e ▸ (hl.at_ k S hM.hk).2.2.1)), h1, h2⟩, hI.rg.left_eq⟩
theorem Round.same {cnt b : Nat} {S : Key → Bool} (h : Round e w0 x F N st bo D blk r eb op id other obj wr cnt b S) (hu : upd e S = S) :
    LoopR e w0 x F N st bo D blk r eb op id other obj wr ∧ wr.rangeLeft bo r = cnt :=
  h.fin (World.grownBy.refl wr _) (by rw [hu]; exact h.own.mono (by omega))

/-- A round's step, the edit lying boxed. -/
theorem wpList_next_R {ops : Array Oper} {rest : List Oper} {o : Oper} {a : Act} {Q : Exit → Act → World → Prop} (hg : o.guard = none) (it : Operand) (hop : o.op = Op.next it false)
    (hit : a.eval it = .pointer (some ⟨r, 0, none⟩)) {st1 : St} {cnt0 : Nat} (hr : LoopR e w0 x F N st1 bo D blk r eb op id other obj wr) (hc0 : wr.rangeLeft bo r = cnt0)
    (hDone : LinAt wr x F (N + 1) (fun j => (st1 j).map (upd e)) bo D blk → Turn (fun i => F i ∨ i = r) w0 wr → wpList Try.prog ops Q rest (a.put o.dst (.tuple #[.bool false])) wr)
    (hMore : ∀ (k : Key) (S : Key → Bool) (b : Nat) (w' : World) (cnt' : Nat), Round e w0 x F N st1 bo D blk r eb op id other obj w' cnt' b S → cnt' < cnt0 →
      (Instr.entry (.pointer (some ⟨r, 0, none⟩))).run Try.prog w' = .ok (.tuple #[encStr k, .map (some b)]) w' → wpList Try.prog ops Q rest (a.put o.dst (.tuple #[.bool true, encStr k, .map (some b)])) w') :
    wpList Try.prog ops Q (o :: rest) a wr := by
  obtain ⟨left, cnt, hI, hE, h1, h2⟩ := hr
  have hcc : cnt = cnt0 := by rw [← hc0, hI.rg.left_eq]
  refine wpList_next_loop hg it hop hit hI (fun hf => hDone hf hI.tn) ?_
  intro k S b w' left' cnt' hb hM hlt hgr hen
  exact hMore k S b w' cnt' ⟨k, left', hb, hM, hE.turn (F := fun i => i = r) (Turn.of_grown hgr (fun i hi => by cases hi; rfl)) h1, h1, h2⟩ (by omega) hen

/-- What Follow hands back, from the loop's end. -/
theorem follow_fin {st1 : St} (hw : Turn (fun _ => False) w0 W) (hT : Turn F W W') (hF4 : ∀ i, F' i → F i ∨ W.heap.size ≤ i) {W'' : World} (hg : W'.grownBy W'' none) (ht : Turn (fun i => F' i ∨ i = W'.heap.size) W'' wr)
    (hfin : LinAt wr x F' N (fun j => (st1 j).map (upd e)) bo D' blk') (hN : N ≤ n + 4) (herr : err st e = 0) (hm : ment st e = st1) : FollowPost w0 x F n st e (.returned (.int .i64 0)) wr := by
  subst hm
  have h1 : Turn F w0 W' := (hw.mono (fun _ h => h.elim)).trans hT
  have hsz := hw.size
  have hsz1 := hT.size
  refine ⟨by rw [herr], F', ⟨bo, D', blk', ?_⟩, (h1.trans (Turn.of_grown hg (fun i hi => by cases hi))).then_ ht ?_, fun i hi => (hF4 i hi).imp (fun h => h) (fun h => by omega)⟩
  · have hst : step st e = fun j => (ment st e j).map (upd e) := by unfold step; rw [if_pos herr]
    rw [hst]
    exact hfin.mono hN
  · rintro i (hi | rfl)
    · exact (hF4 i hi).imp (fun h => h) (fun h => by omega)
    · exact .inr (by omega)

/-- An edit that is refused. -/
theorem follow_err {c : Int} (h : Sit w0 W x F n st bo D blk eb op id other obj) (hc : err st e = c) (h0 : c ≠ 0) : FollowPost w0 x F n st e (.returned (.int .i64 c)) W := by
  have hst : step st e = st := by unfold step; rw [if_neg (by rw [hc]; exact h0)]
  refine ⟨by rw [hc], F, ?_, h.tn.mono (fun _ h => h.elim), fun i hi => .inl hi⟩
  rw [hst]
  exact ⟨bo, D, blk, h.lin.mono (by omega)⟩

end

theorem str_eq {a b : ByteArray} (h : a.data.toList = b.data.toList) : a = b := by
  cases a; cases b; simp at h; rw [h]

theorem upd_drop (id other obj : Key) (S : Key → Bool) : upd ⟨5, id, other, obj⟩ S = fun j => S j && !(j == id) := by unfold upd; simp
theorem upd_quiet {e : Ed} {S : Key → Bool} (h : e.op < 5) (_h1 : 1 ≤ e.op) : upd e S = S := upd_same e S (by omega) (fun h => by omega) (fun h => by omega)
theorem upd_split_yes {id other obj : Key} {S : Key → Bool} (h : S id = true) : upd ⟨6, id, other, obj⟩ S = fun j => S j || j == other := by unfold upd; simp [h]
theorem upd_split_no {id other obj : Key} {S : Key → Bool} (h : S id = false) : upd ⟨6, id, other, obj⟩ S = S := by unfold upd; simp [h]
theorem upd_join_yes {id other obj : Key} {S : Key → Bool} (h : S other = true) : upd ⟨7, id, other, obj⟩ S = fun j => (S j && !(j == other)) || j == id := by unfold upd; simp [h]
theorem upd_join_no {id other obj : Key} {S : Key → Bool} (h : S other = false) : upd ⟨7, id, other, obj⟩ S = S := by unfold upd; simp [h]

theorem ment_two {F F1 F2 : Nat → Prop} {a b c : World} (hT : Turn F a b) (h1 : ∀ i, F1 i → F i ∨ a.heap.size ≤ i) (hT' : Turn F1 b c) (h2 : ∀ i, F2 i → F1 i ∨ b.heap.size ≤ i) : Turn F a c ∧ ∀ i, F2 i → F i ∨ a.heap.size ≤ i :=
  ⟨hT.then_ hT' h1, fun i hi => (h2 i hi).elim (h1 i) (fun h => .inr (Nat.le_trans hT.size h))⟩

theorem Round.ed_after {e : Ed} {w0 wr W' : World} {x N bo r eb cnt b : Nat} {F : Nat → Prop} {st : St} {D : DataW Unit} {blk : Key → Nat} {op : Int} {id other obj : ByteArray} {S : Key → Bool}
    (h : Round e w0 x F N st bo D blk r eb op id other obj wr cnt b S) (hg : wr.grownBy W' (some b)) : EdAt W' eb op id other obj := by
  obtain ⟨k, left, rfl, hM, hE, h1, h2⟩ := h
  obtain ⟨_, hl⟩ := hM.lin
  exact hE.turn (F := fun i => i = blk k) (Turn.of_grown hg (fun i hi => by cases hi; rfl)) (fun e => h2 (e ▸ (hl.at_ k S hM.hk).2.2.1))

theorem ment_quiet {op : Int} (h2 : 2 ≤ op) (h4 : op ≤ 4) {st : St} {id other obj : Key} : ment st ⟨op, id, other, obj⟩ = mentionS st id := by
  have t6 : (op == 6) = false := by simp; omega
  have t7 : (op == 7) = false := by simp; omega
  have t1 : ¬ op = 1 := by omega
  unfold ment Ed.two Ed.main
  simp [t6, t7, t1]

end Go.Proofs.Ytkbjfmlfmmmknaa
