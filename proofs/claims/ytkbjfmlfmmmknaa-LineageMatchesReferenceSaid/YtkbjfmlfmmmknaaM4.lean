/- The walks of the reference's put, Now, Then and Gone. -/
import Derived.Test.YtkbjfmlfmmmknaaM3
import Derived.Deep.CutBlock
namespace Go.Proofs.Ytkbjfmlfmmmknaa
open Go.RowKit Go.Maps Go.WideMaps Go.ChangeMaps Go.Sort

/-- A slice whose strings are these, wherever it begins. -/
def SrcS (w : World) (u : Value) (ts : List Key) : Prop :=
  ∃ A c, u = .slice A ts.length c ∧ ((A = none ∧ ts = []) ∨ ∃ g o, A = some ⟨g, o, none⟩ ∧ g < w.heap.size ∧ ∀ j (h : j < ts.length), w.cell? ⟨g, o + j, none⟩ = some (.string (toB ts[j])))
theorem SrcS.below {w w' : World} {u : Value} {ts : List Key} (h : SrcS w u ts) (hb : Below w.heap.size w w') : SrcS w' u ts := by
  obtain ⟨A, c, rfl, h1⟩ := h
  refine ⟨A, c, rfl, ?_⟩
  rcases h1 with h1 | ⟨g, o, rfl, hg, hc⟩
  · exact .inl h1
  · exact .inr ⟨g, o, rfl, Nat.lt_of_lt_of_le hg hb.size, fun j hj => (hb.cell (p := ⟨g, o + j, none⟩) hg).trans (hc j hj)⟩

theorem run_append_src (w : World) (base ty : Nat) (v u : Value) (ss ts : List Key) (hown : OwnS w base v ss) (hu : SrcS w u ts) (hl : ss.length + ts.length ≤ 1000000) (hbase : base ≤ w.heap.size) :
    ∃ v' w', (Builtin.append_ #[33, 33] ty #[v, u]).run Try.prog w = .ok v' w' ∧ OwnS w' base v' (ss ++ ts) ∧ w.grownBy w' v.ownBlock := by
  obtain ⟨i, hi, hz, h1, h2⟩ := info_parts info9
  obtain ⟨A, c, rfl, hA⟩ := hu
  rcases hA with ⟨rfl, rfl⟩ | ⟨g, o, rfl, hg, hc⟩
  · refine ⟨v, w, ?_, by simpa using hown, World.grownBy.refl w _⟩
    rcases hown.2 with ⟨rfl, hn⟩ | ⟨g, cap, cur, rfl, _, _, hnc, _⟩
    · simp [Builtin.append_, run_underlying Try.underlying33, sizeOf, typeInfo, hi, Builtin.lenOf, Builtin.firstCells]
    · simp [Builtin.append_, run_underlying Try.underlying33, sizeOf, typeInfo, hi, Builtin.lenOf, Builtin.firstCells, hnc, storeCells]
  · obtain ⟨v', w', hrun, r1, r2, _, _⟩ := run_append_own_at (P := Try.prog) w base 33 ty 9 i _ 1 16 Try.underlying33 hi hz h1 h2 rfl (by decide) v ss.length (ss.map encStr) hown ⟨g, o, none⟩ ts.length c (ts.map encStr) (by simp)
      (fun j x hx => by
        have hj : j < ts.length := by
          have := (List.getElem?_eq_some_iff.1 hx).1; simpa using this
        have e : (⟨g, o, none⟩ : Addr).add j = ⟨g, o + j, none⟩ := by simp [Addr.add]
        rw [e, hc j hj]
        rw [List.getElem?_map, List.getElem?_eq_getElem hj] at hx
        exact hx)
      (fun x hx => by obtain ⟨k, _, rfl⟩ := List.mem_map.1 hx; rfl) (by simp only [maxLen]; omega) (by omega) hbase
    refine ⟨v', w', hrun, ?_, r2⟩
    unfold OwnS
    rw [List.length_append, List.map_append]
    exact r1

theorem wpList_append_src (w : World) {ops : Array Oper} {rest : List Oper} {o : Oper} {a : Act} {Q : Exit → Act → World → Prop} (hg : o.guard = none) (s x : Operand)
    (ho : o.op = Op.call { callee := Callee.builtin Builtin.append, args := #[s, x], argTypes := #[33, 33] }) (base : Nat) (v u : Value) (ss ts : List Key) (hs : a.eval s = v) (hx : a.eval x = u)
    (hown : OwnS w base v ss) (hu : SrcS w u ts) (hl : ss.length + ts.length ≤ 1000000) (hbase : base ≤ w.heap.size)
    (h : ∀ v' w', OwnS w' base v' (ss ++ ts) → w.grownBy w' v.ownBlock → wpList Try.prog ops Q rest (a.put o.dst v') w') : wpList Try.prog ops Q (o :: rest) a w := by
  refine wpList_plain hg fun K hK => ?_
  obtain ⟨v', w', hrun, r1, r2⟩ := run_append_src w base o.type v u ss ts hown hu hl hbase
  unfold Oper.wp
  simp [execOp, ho, resolve, invoke, builtin, hs, hx, hrun, Result.andThen]
  exact hK _ _ (h v' w' r1 r2)

/-- A slice of strings with room as Go's slices have it. -/
def SLC (w : World) (v : Value) (ks : List Key) : Prop := SL w v (ks.map toB) ∧ ∀ A n c, v = .slice A n c → n ≤ c
theorem SLC.below {w w' : World} {v : Value} {ks : List Key} (h : SLC w v ks) (hb : Below w.heap.size w w') : SLC w' v ks :=
  ⟨h.1.turn (Turn.of_below (F := fun _ => False) hb) (fun _ _ h => h), h.2⟩
theorem OwnS.slc {w : World} {base : Nat} {v : Value} {ss : List Key} (h : OwnS w base v ss) (hl : ss.length ≤ 1000000) : SLC w v ss := by
  refine ⟨h.sl hl, fun A n c e => ?_⟩
  rcases h.2 with ⟨rfl, _⟩ | ⟨g, cap, cur, rfl, _, _, hn, _⟩
  · cases e; omega
  · cases e; exact hn

theorem size9 (W : World) : (sizeOf (Try.prog.elem 33)).run Try.prog W = .ok 1 W := by kernel_rfl

theorem elem33 : Try.prog.underlying 33 = some (.slice (Try.prog.elem 33)) := by kernel_rfl

theorem src_from {w : World} {v : Value} {ks : List Key} (h : SLC w v ks) {k : Nat} (hk : k ≤ ks.length) :
    ∃ u, (∀ W, (Instr.slice 33 v (some (.int .i64 k)) none none).run Try.prog W = .ok u W) ∧ SrcS w u (ks.drop k) := by
  have hlen : (ks.drop k).length = ks.length - k := List.length_drop
  rcases h.1.2 with ⟨rfl, h0⟩ | ⟨g, cap, rfl, hS⟩
  · obtain rfl : ks = [] := by simpa using h0
    obtain rfl : k = 0 := by simpa using hk
    refine ⟨.slice none 0 0, fun W => ?_, none, 0, rfl, .inl ⟨rfl, rfl⟩⟩
    rw [run_slice_l (P := Try.prog) W 33 none 0 0 elem33 .i64 _ (by omega) (by omega), size9]; rfl
  · have hn := h.2 _ _ _ rfl
    rw [List.length_map] at hn ⊢
    refine ⟨_, fun W => by rw [run_slice_l (P := Try.prog) W 33 (some ⟨g, 0, none⟩) ks.length cap elem33 .i64 k (by omega) (by omega), size9]; rfl, ?_⟩
    unfold sliced
    by_cases hc : cap = k
    · refine ⟨_, cap - k, by rw [hlen, Int.toNat_natCast], .inr ⟨g, 0, by rw [if_pos hc], hS.lt, fun j hj => by rw [hlen] at hj; omega⟩⟩
    · refine ⟨_, cap - k, by rw [hlen, Int.toNat_natCast], .inr ⟨g, k, by rw [if_neg hc]; simp [Addr.add]; omega, hS.lt, fun j hj => ?_⟩⟩
      rw [hlen] at hj
      rw [hS.at_ (by omega : k + j < ks.length), List.getElem_drop]

theorem src_to {w : World} {v : Value} {ks : List Key} (h : SLC w v ks) {k : Nat} (hk : k ≤ ks.length) :
    ∃ u, (∀ W, (Instr.slice 33 v none (some (.int .i64 k)) none).run Try.prog W = .ok u W) ∧ SrcS w u (ks.take k) := by
  have hlen : (ks.take k).length = k := by rw [List.length_take]; omega
  rcases h.1.2 with ⟨rfl, h0⟩ | ⟨g, cap, rfl, hS⟩
  · obtain rfl : ks = [] := by simpa using h0
    obtain rfl : k = 0 := by simpa using hk
    refine ⟨.slice none 0 0, fun W => ?_, none, 0, rfl, .inl ⟨rfl, rfl⟩⟩
    rw [run_slice_h (P := Try.prog) W 33 none 0 0 elem33 .i64 _ (by omega) (by omega), size9]; rfl
  · have hn := h.2 _ _ _ rfl
    rw [List.length_map] at hn ⊢
    refine ⟨_, fun W => by rw [run_slice_h (P := Try.prog) W 33 (some ⟨g, 0, none⟩) ks.length cap elem33 .i64 k (by omega) (by omega), size9]; rfl, ?_⟩
    unfold sliced
    refine ⟨some ⟨g, 0, none⟩, cap, ?_, .inr ⟨g, 0, rfl, hS.lt, fun j hj => ?_⟩⟩
    · rw [hlen, Int.toNat_natCast]
      by_cases hc : cap = 0
      · rw [if_pos hc]; simp
      · rw [if_neg hc]; simp [Addr.add]
    · rw [hlen] at hj
      rw [Nat.zero_add, hS.at_ (by omega : j < ks.length), List.getElem_take]

def PutPost (w : World) (ks : List Key) (s : Key) (en : Ending) (w' : World) : Prop :=
  ∃ v', en = .returned v' ∧ SLC w' v' (putP ks s) ∧ Below w.heap.size w w' ∧ ∀ g, v'.ownBlock = some g → w.heap.size ≤ g

theorem take_less {ks : List Key} {s : Key} : ∀ {k : Nat}, k ≤ ks.length → (∀ j (h : j < ks.length), j < k → ks[j] < s) → (∀ h : k < ks.length, ¬ ks[k] < s) →
    ks.takeWhile (fun x => decide (x < s)) = ks.take k ∧ ks.dropWhile (fun x => decide (x < s)) = ks.drop k := by
  induction ks with
  | nil => intro k _ _ _; simp
  | cons a ks ih =>
    intro k hk h1 h2
    cases k with
    | zero =>
      have := h2 (by simp)
      have ha : ¬ a < s := this
      simp [ha]
    | succ k =>
      have ha : a < s := h1 0 (by simp) (by omega)
      have := ih (k := k) (by simpa using hk) (fun j hj hjk => h1 (j + 1) (by simpa using hj) (by omega)) (fun h => h2 (by simpa using h))
      rw [List.takeWhile_cons, List.dropWhile_cons, decide_eq_true ha]
      simp [this.1, this.2]

theorem less_spell (a b : ByteArray) : Op.bytesLess a.toList b.toList = decide (a.data.toList < b.data.toList) := by
  simp only [ByteArray.toList_eq, bytesLess_eq]

theorem ownS_one (w : World) (s : ByteArray) : OwnS (w.alloc (.cells #[.string s] 9)) w.heap.size (.slice (some ⟨w.heap.size, 0, none⟩) 1 1) [s.data.toList] := by
  have := World.ownsRow_lit (base := w.heap.size) (e := 9) (size := 1) w #[.string s] 1 (Nat.le_refl _) (by unfold maxLen; omega) rfl
  have e : [s.data.toList].map encStr = [.string s] := by simp [encStr]
  unfold OwnS
  rw [e]
  exact this
theorem OwnS.src {w : World} {base : Nat} {v : Value} {ss : List Key} (h : OwnS w base v ss) (hl : ss.length ≤ 1000000) : SrcS w v ss := by
  have hs := h.sl hl
  rcases hs.2 with ⟨rfl, h0⟩ | ⟨g, cap, rfl, h1⟩
  · obtain rfl : ss = [] := by simpa using h0
    exact ⟨none, 0, rfl, .inl ⟨rfl, rfl⟩⟩
  · refine ⟨_, cap, by rw [List.length_map], .inr ⟨g, 0, rfl, h1.lt, fun j hj => ?_⟩⟩
    rw [Nat.zero_add]; exact h1.at_ hj
theorem grown_below {w w' : World} {o : Obj} {v : Value} {base : Nat} {ss : List Key} (h : OwnS (w.alloc o) base v ss) (hb : w.heap.size ≤ base) (hg : (w.alloc o).grownBy w' v.ownBlock) : Below w.heap.size w w' :=
  ⟨hg.os, hg.tape, hg.output, by have := hg.size; simp at this; omega, fun i hi => (hg.block i (by simp; omega) (fun e => by have := h.base_le e.symm; omega)).trans (Below.heap_alloc w o i hi)⟩

set_option maxHeartbeats 4000000 in
theorem put_any (w : World) (v : Value) (ks : List Key) (s : ByteArray) (h : SLC w v ks) (hl : ks.length ≤ 900000) : Calls Try.prog 38 #[v, .string s] w (PutPost w ks s.data.toList) := by
  have HS := Lib.hid h
  obtain ⟨A, c, rfl, _, hA⟩ := h.1.shape
  have HA := Lib.hid hA
  clear h hA
  go_enter Try.func38, Try.ntmps38
  go_upto_block 0 with fail
  go_cut [5] (fun i wx => wx = w ∧ ∃ k : Nat, i = .int .i64 k ∧ k ≤ ks.length ∧ (∀ j (h : j < ks.length), j < k → ks[j] < s.data.toList) ∧ (∀ h : k < ks.length, ¬ ks[k] < s.data.toList))
  case first =>
    go_wp2_with fail
    go_loop [5] (fun i => ∃ k : Nat, k ≤ ks.length ∧ i = .int .i64 k ∧ Hid (∀ j (h : j < ks.length), j < k → ks[j] < s.data.toList)) (fun i => ks.length - (intOf i).toNat)
    case atStart => exact ⟨0, Nat.zero_le _, rfl, fun j _ hj => absurd hj (by omega)⟩
    case round =>
      obtain ⟨k, hk, rfl, hq⟩ := hrel
      by_cases hlt : k < ks.length
      · have hki : (k : Int) < (ks.length : Int) := by omega
        obtain ⟨g, rfl, hSL⟩ := HA.out (by omega)
        have d0 := hSL.at_ hlt
        have b0 := less_spell (toB ks[k]) s
        rw [toB_data] at b0
        clear hSL
        by_cases e : ks[k] < s.data.toList
        · rw [decide_eq_true e] at b0
          have HN : Hid (∀ j (h : j < ks.length), j < k + 1 → ks[j] < s.data.toList) := Lib.hid fun j hj hjk => by
            by_cases ej : j = k
            · subst ej; exact e
            · exact hq.out j hj (by omega)
          clear e
          generalize toB ks[k] = t at *
          go_wp2_with fail
          go_round
          case rel => exact ⟨k + 1, by omega, by go_num, HN⟩
          case measure => simp [intOf]; omega
        · rw [decide_eq_false e] at b0
          have HE := Lib.hid (fun (_ : k < ks.length) => e)
          clear e
          generalize toB ks[k] = t at *
          go_wp2_with fail
          go_meet
          exact ⟨rfl, k, rfl, hk, hq.out, HE.out⟩
      · have hki : decide ((k : Int) < (ks.length : Int)) = false := by simp; omega
        have hki2 : decide (k < ks.length) = false := by simp; omega
        go_wp2_with fail
        go_meet
        exact ⟨rfl, k, rfl, hk, hq.out, fun h => absurd h hlt⟩
  case rest =>
    obtain ⟨rfl, k, rfl, hk, h1, h2⟩ := hcut
    obtain ⟨e1, e2⟩ := take_less hk h1 h2
    have HE : Hid (([] ++ ks.take k) ++ ([s.data.toList] ++ ks.drop k) = putP ks s.data.toList) := Lib.hid (by unfold putP; rw [e1, e2]; simp)
    obtain ⟨u1, hu1, hs1⟩ := src_from HS.out hk
    obtain ⟨u2, hu2, hs2⟩ := src_to HS.out hk
    have HS1 := Lib.hid hs1
    have HS2 := Lib.hid hs2
    have hl1 : (ks.take k).length + (ks.drop k).length = ks.length := by rw [← List.length_append, List.take_append_drop]
    have HL : Hid ([s.data.toList].length + (ks.drop k).length ≤ 1000000 ∧ ([] : List Key).length + (ks.take k).length ≤ 1000000 ∧ ([] ++ ks.take k).length + ([s.data.toList] ++ ks.drop k).length ≤ 1000000 ∧ ([s.data.toList] ++ ks.drop k).length ≤ 1000000) := Lib.hid (by simp only [List.length_append, List.length_nil, List.length_singleton]; omega)
    clear h1 h2 e1 e2 hs1 hs2 hl1 HS HA hk hl
    go_upto_region 5 with (at_builtin; refine wpList_append_src _ rfl (.tmp 22) (.tmp 25) rfl wc.heap.size _ _ _ _ rfl rfl (ownS_one _ s) (HS1.out.below (boxed_below _ _)) HL.out.1 (by simp) ?_; intro v1 w1 hown1 hg1; have HB1 := Lib.hid (grown_below (ownS_one _ s) (Nat.le_refl _) hg1); have HO1 := Lib.hid hown1; clear hown1 hg1)
    have HQ := Lib.hid (ownS_start w1)
    have HU2 : Hid (SrcS (w1.alloc (.cells #[] 9)) u2 (ks.take k)) := Lib.hid ((HS2.out.below HB1.out).below (boxed_below _ _))
    go_wp2_with (first | (at_builtin; refine wpList_append_src _ rfl (.tmp 27) (.tmp 30) rfl w1.heap.size _ _ [] (ks.take k) rfl rfl HQ.out HU2.out HL.out.2.1 (by simp) ?_; intro v2 w2 hown2 hg2; have HB2 := Lib.hid (grown_below HQ.out (Nat.le_refl _) hg2); have HO2 := Lib.hid hown2; clear hown2 hg2) | (at_builtin; refine wpList_append_src _ rfl (.tmp 31) (.tmp 32) rfl w1.heap.size _ _ ([] ++ ks.take k) ([s.data.toList] ++ ks.drop k) rfl rfl HO2.out ((HO1.out.src HL.out.2.2.2).below HB2.out) HL.out.2.2.1 HB2.out.size ?_; intro v3 w3 hown3 hg3; have HG3 := Lib.hid hg3; have HO3 := Lib.hid hown3; clear hown3 hg3))
    have hb3 : Below w1.heap.size w1 w3 := HB2.out.trans ⟨HG3.out.os, HG3.out.tape, HG3.out.output, HG3.out.size, fun i hi => HG3.out.block i (Nat.lt_of_lt_of_le hi HB2.out.size) (fun e => by have := HO2.out.base_le e.symm; omega)⟩
    have hfin : PutPost wc ks s.data.toList (.returned v3) w3 := by
      refine ⟨v3, rfl, ?_, HB1.out.trans (hb3.mono HB1.out.size), fun g hg => Nat.le_trans HB1.out.size (HO3.out.base_le hg)⟩
      rw [← HE.out]
      exact HO3.out.slc (by have := HL.out.2.2.1; rw [List.length_append]; exact this)
    go_ret
    exact hfin
end Go.Proofs.Ytkbjfmlfmmmknaa
