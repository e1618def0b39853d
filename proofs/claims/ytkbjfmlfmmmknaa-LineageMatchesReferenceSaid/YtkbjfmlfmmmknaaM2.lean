/- The walks of the reference's mention and add. -/
import Derived.Test.YtkbjfmlfmmmknaaM1
import Derived.Test.YtkbjfmlfmmmknaaL7
import Derived.Deep.DeepCutAuto
namespace Go.Proofs.Ytkbjfmlfmmmknaa
open Go.RowKit Go.Maps Go.WideMaps Go.ChangeMaps Go.Sort

theorem info70 : (Try.prog.info? 70).map (fun i => (i.zero, i.size, i.bytes)) = some (some (.agg #[.string ByteArray.empty, .string ByteArray.empty]), 2, 32) := by kernel_rfl

theorem flatP_length (ps : List (Key × Key)) : (ps.flatMap encP).length = ps.length * 2 := by
  induction ps with
  | nil => rfl
  | cons p ps ih => rw [List.flatMap_cons, List.length_append, ih, List.length_cons]; show 2 + _ = _; omega
theorem flatP_at : ∀ (ps : List (Key × Key)) (i : Nat) (h : i < ps.length), (ps.flatMap encP)[i * 2]? = some (.string (toB ps[i].1)) ∧ (ps.flatMap encP)[i * 2 + 1]? = some (.string (toB ps[i].2))
  | p :: ps, 0, _ => ⟨rfl, rfl⟩
  | p :: ps, i + 1, h => by
    have ih := flatP_at ps i (by simpa using h)
    have e1 : (i + 1) * 2 = i * 2 + 1 + 1 := by omega
    rw [e1]
    exact ih
theorem flatP_of {ps : List (Key × Key)} {j : Nat} {u : Value} (h : (ps.flatMap encP)[j]? = some u) : ∃ i, ∃ hi : i < ps.length, (j = i * 2 ∧ u = .string (toB ps[i].1)) ∨ (j = i * 2 + 1 ∧ u = .string (toB ps[i].2)) := by
  have hj : j < ps.length * 2 := by
    rw [← flatP_length]
    exact (List.getElem?_eq_some_iff.1 h).1
  have hi : j / 2 < ps.length := by omega
  obtain ⟨h1, h2⟩ := flatP_at ps (j / 2) hi
  refine ⟨j / 2, hi, ?_⟩
  by_cases e : j % 2 = 0
  · have : j = j / 2 * 2 := by omega
    rw [this] at h
    rw [h1] at h
    exact .inl ⟨this, (Option.some.inj h).symm⟩
  · have : j = j / 2 * 2 + 1 := by omega
    rw [this] at h
    rw [h2] at h
    exact .inr ⟨this, (Option.some.inj h).symm⟩

/-- The row of the call's own: it reads as these pairs, it lies from base on. -/
def OwnP (w : World) (base : Nat) (v : Value) (ps : List (Key × Key)) : Prop := w.ownsRow base 70 2 v ps.length (ps.flatMap encP)

theorem OwnP.pl {w : World} {base : Nat} {v : Value} {ps : List (Key × Key)} (h : OwnP w base v ps) (hl : ps.length ≤ 1000000) : PL w v ps := by
  refine ⟨hl, ?_⟩
  rcases h.2 with ⟨rfl, h0⟩ | ⟨g, cap, cur, rfl, hbase, hgb, r1, r2, r3, r4⟩
  · obtain rfl := List.eq_nil_of_length_eq_zero h0
    exact .inl ⟨rfl, rfl⟩
  · have key : ∀ j u, (ps.flatMap encP)[j]? = some u → w.cell? ⟨g, j, none⟩ = some u := fun j u hu => by
      have hj : j < ps.length * 2 := by rw [← flatP_length]; exact (List.getElem?_eq_some_iff.1 hu).1
      rw [cell_of_row w g j cur 70 (0, 0) hgb, ← Array.getElem?_toList, ← List.getElem?_take_of_lt (j := ps.length * 2) hj, r4]
      exact hu
    exact .inr ⟨g, cap, rfl, (Array.getElem?_eq_some_iff.1 hgb).1, fun i hi => key _ _ (flatP_at ps i hi).1, fun i hi => key _ _ (flatP_at ps i hi).2⟩
theorem OwnP.base_le {w : World} {base : Nat} {v : Value} {ps : List (Key × Key)} (h : OwnP w base v ps) {g : Nat} (hg : v.ownBlock = some g) : base ≤ g := by
  rcases h.2 with ⟨rfl, _⟩ | ⟨g', cap, cur, rfl, hb, _⟩
  · cases hg
  · have : g' = g := by simpa [Value.ownBlock] using hg
    omega
theorem OwnP.below {w w' : World} {base : Nat} {v : Value} {ps : List (Key × Key)} (h : OwnP w base v ps) (hb : Below w.heap.size w w') : OwnP w' base v ps := by
  refine ⟨h.1, ?_⟩
  rcases h.2 with h0 | ⟨g, cap, cur, rfl, h1, h2, h3⟩
  · exact .inl h0
  · exact .inr ⟨g, cap, cur, rfl, h1, (hb.block g (Array.getElem?_eq_some_iff.1 h2).1).trans h2, h3⟩

theorem encP_cells {ps : List (Key × Key)} : ∀ x ∈ ps.flatMap encP, x.oneCell' = true := by
  intro x hx
  obtain ⟨p, _, hp⟩ := List.mem_flatMap.1 hx
  unfold encP at hp
  rcases List.mem_cons.1 hp with rfl | hp
  · rfl
  · rw [List.mem_singleton.1 hp]; rfl

theorem run_append_pairs (w : World) (base ty : Nat) (v u : Value) (ps qs : List (Key × Key)) (hown : OwnP w base v ps) (hu : PL w u qs) (hl : ps.length + qs.length ≤ 1000000) (hbase : base ≤ w.heap.size) :
    ∃ v' w', (Builtin.append_ #[56, 56] ty #[v, u]).run Try.prog w = .ok v' w' ∧ OwnP w' base v' (ps ++ qs) ∧ w.grownBy w' v.ownBlock := by
  obtain ⟨i, hi, hz, h1, h2⟩ := info_parts info70
  rcases hu.2 with ⟨rfl, rfl⟩ | ⟨g, cap, rfl, hg⟩
  · refine ⟨v, w, ?_, by simpa using hown, World.grownBy.refl w _⟩
    rcases hown.2 with ⟨rfl, hn⟩ | ⟨g, cap, cur, rfl, _, _, hnc, _⟩
    · simp [Builtin.append_, run_underlying Try.underlying56, sizeOf, typeInfo, hi, Builtin.lenOf, Builtin.firstCells]
    · simp [Builtin.append_, run_underlying Try.underlying56, sizeOf, typeInfo, hi, Builtin.lenOf, Builtin.firstCells, hnc, storeCells]
  · obtain ⟨v', w', hrun, r1, r2, _, _⟩ := run_append_own_at (P := Try.prog) w base 56 ty 70 i _ 2 32 Try.underlying56 hi hz h1 h2 rfl (by decide) v ps.length (ps.flatMap encP) hown ⟨g, 0, none⟩ qs.length cap (qs.flatMap encP) (flatP_length qs)
      (fun j x hx => by
        have e : (⟨g, 0, none⟩ : Addr).add j = ⟨g, j, none⟩ := by simp [Addr.add]; omega
        rw [e]
        obtain ⟨i, hi, ⟨rfl, rfl⟩ | ⟨rfl, rfl⟩⟩ := flatP_of hx
        · exact hg.fst i hi
        · exact hg.snd i hi)
      encP_cells (by simp only [maxLen]; omega) (by omega) hbase
    refine ⟨v', w', hrun, ?_, r2⟩
    unfold OwnP
    rw [List.length_append, List.flatMap_append]
    exact r1

/-- .. at the walk. -/
theorem wpList_append_pairs (w : World) {ops : Array Oper} {rest : List Oper} {o : Oper} {a : Act} {Q : Exit → Act → World → Prop} (hg : o.guard = none) (s x : Operand)
    (ho : o.op = Op.call { callee := Callee.builtin Builtin.append, args := #[s, x], argTypes := #[56, 56] }) (base : Nat) (v u : Value) (ps qs : List (Key × Key)) (hs : a.eval s = v) (hx : a.eval x = u)
    (hown : OwnP w base v ps) (hu : PL w u qs) (hl : ps.length + qs.length ≤ 1000000) (hbase : base ≤ w.heap.size)
    (h : ∀ v' w', OwnP w' base v' (ps ++ qs) → w.grownBy w' v.ownBlock → wpList Try.prog ops Q rest (a.put o.dst v') w') : wpList Try.prog ops Q (o :: rest) a w := by
  refine wpList_plain hg fun K hK => ?_
  obtain ⟨v', w', hrun, r1, r2⟩ := run_append_pairs w base o.type v u ps qs hown hu hl hbase
  unfold Oper.wp
  simp [execOp, ho, resolve, invoke, builtin, hs, hx, hrun, Result.andThen]
  exact hK _ _ (h v' w' r1 r2)

/-- A slice is the elder one, or it lies behind all that was there. -/
def Fresh (w : World) (v v' : Value) : Prop := v' = v ∨ ∀ g, v'.ownBlock = some g → w.heap.size ≤ g

/-- The reference's lineage is another one now; nothing else has turned. -/
def RChange (w : World) (y : Nat) (vp vm : Value) (r' : RS) (w' : World) : Prop :=
  ∃ vp' vm', RLin w' y vp' vm' r' ∧ Turn (fun i => i = y) w w' ∧ Fresh w vp vp' ∧ Fresh w vm vm'
def RDone (w : World) (y : Nat) (vp vm : Value) (r' : RS) (en : Ending) (w' : World) : Prop := en = .returned (.tuple #[]) ∧ RChange w y vp vm r' w'

theorem Fresh.trans {w w' : World} {v v' v'' : Value} (h : Fresh w v v') (k : Fresh w' v' v'') (hs : w.heap.size ≤ w'.heap.size) : Fresh w v v'' := by
  rcases k with rfl | k
  · exact h
  · exact .inr fun g hg => Nat.le_trans hs (k g hg)
theorem RChange.refl {w : World} {y : Nat} {vp vm : Value} {r : RS} (h : RLin w y vp vm r) : RChange w y vp vm r w := ⟨vp, vm, h, Turn.refl _ _, .inl rfl, .inl rfl⟩

theorem ownS_start (w : World) : OwnS (w.alloc (.cells #[] 9)) w.heap.size (.slice (some ⟨w.heap.size, 0, none⟩) 0 0) [] := by
  have := World.ownsRow_lit (base := w.heap.size) (e := 9) (size := 1) w #[] 0 (Nat.le_refl _) (by unfold maxLen; omega) rfl
  exact this
theorem ownP_start (w : World) : OwnP (w.alloc (.cells #[] 70)) w.heap.size (.slice (some ⟨w.heap.size, 0, none⟩) 0 0) [] := by
  have := World.ownsRow_lit (base := w.heap.size) (e := 70) (size := 2) w #[] 0 (Nat.le_refl _) (by unfold maxLen; omega) rfl
  exact this
theorem sl_one (w : World) (a : ByteArray) : SL (w.alloc (.cells #[.string a] 9)) (.slice (some ⟨w.heap.size, 0, none⟩) 1 1) ([a.data.toList].map toB) := by
  have := SL_lit w [a] (by simp)
  rw [List.map_cons, toB_back]
  exact this
theorem pl_one (w : World) (a b : ByteArray) : PL (w.alloc (.cells #[.string a, .string b] 70)) (.slice (some ⟨w.heap.size, 0, none⟩) 1 1) [(a.data.toList, b.data.toList)] := by
  refine ⟨by simp, .inr ⟨_, 1, rfl, ?_⟩⟩
  have hc : (w.alloc (.cells #[.string a, .string b] 70)).heap[w.heap.size]? = some (.cells #[.string a, .string b] 70 (0, 0)) := heap_alloc_new w _
  have e0 : (w.alloc (.cells #[.string a, .string b] 70)).cell? ⟨w.heap.size, 0, none⟩ = some (.string a) := cell_of_row _ _ 0 _ _ _ hc
  have e1 : (w.alloc (.cells #[.string a, .string b] 70)).cell? ⟨w.heap.size, 1, none⟩ = some (.string b) := cell_of_row _ _ 1 _ _ _ hc
  refine ⟨(Array.getElem?_eq_some_iff.1 hc).1, fun i hi => ?_, fun i hi => ?_⟩
  · obtain rfl : i = 0 := by simpa using hi
    show _ = some (Value.string (toB a.data.toList))
    rw [toB_back]; exact e0
  · obtain rfl : i = 0 := by simpa using hi
    show _ = some (Value.string (toB b.data.toList))
    rw [toB_back]; exact e1

/-! ### the receiver's block -/
def YAt (w : World) (y : Nat) (a b : Value) : Prop := w.heap[y]? = some (.cells #[a, b] 58 (0, 0))
theorem YAt.c0 {w : World} {y : Nat} {a b : Value} (h : YAt w y a b) : w.cell? ⟨y, 0, none⟩ = some a := cell_of_row _ _ 0 _ _ _ h
theorem YAt.c1 {w : World} {y : Nat} {a b : Value} (h : YAt w y a b) : w.cell? ⟨y, 1, none⟩ = some b := cell_of_row _ _ 1 _ _ _ h
theorem YAt.fr {w : World} {y : Nat} {a b : Value} (h : YAt w y a b) (i : Nat) : w.frozen? ⟨y, i, none⟩ = false := by
  have h' : w.heap[y]? = some (.cells #[a, b] 58 (0, 0)) := h
  simp [World.frozen?, h']
theorem YAt.lt {w : World} {y : Nat} {a b : Value} (h : YAt w y a b) : y < w.heap.size := (Array.getElem?_eq_some_iff.1 h).1
theorem YAt.keep {w w' : World} {y : Nat} {a b : Value} (h : YAt w y a b) (hb : w'.heap[y]? = w.heap[y]?) : YAt w' y a b := hb.trans h
theorem YAt.set0 {w : World} {y : Nat} {a b : Value} (h : YAt w y a b) (v : Value) : YAt (w.setCell ⟨y, 0, none⟩ v) y v b := heap_setCell_same w y 0 _ _ v h
theorem YAt.set1 {w : World} {y : Nat} {a b : Value} (h : YAt w y a b) (v : Value) : YAt (w.setCell ⟨y, 1, none⟩ v) y a v := heap_setCell_same w y 1 _ _ v h
theorem turn_set (w : World) (y i : Nat) (v : Value) : Turn (fun j => j = y) w (w.setCell ⟨y, i, none⟩ v) :=
  ⟨rfl, rfl, rfl, by simp, fun j _ hj => heap_setCell_other w ⟨y, i, none⟩ j v hj⟩

theorem ownS_form {w : World} {base : Nat} {v : Value} {ss : List Key} (h : OwnS w base v ss) : ∃ A n c, v = .slice A n c := by
  rcases h.2 with ⟨rfl, _⟩ | ⟨g, cap, cur, rfl, _⟩ <;> exact ⟨_, _, _, rfl⟩
theorem ownP_form {w : World} {base : Nat} {v : Value} {ss : List (Key × Key)} (h : OwnP w base v ss) : ∃ A n c, v = .slice A n c := by
  rcases h.2 with ⟨rfl, _⟩ | ⟨g, cap, cur, rfl, _⟩ <;> exact ⟨_, _, _, rfl⟩

/-- What stands behind the two appends that lay a string behind a copy of the strings. -/
theorem twice_words {w w1 w2 : World} {y : Nat} {vp vm v1 : Value} {ms : List Key} {o : Obj} (hy : YAt w y vp vm) (hg1 : (w.alloc (.cells #[] 9)).grownBy w1 (some w.heap.size)) (h1 : OwnS w1 w.heap.size v1 ([] ++ ms))
    (hg2 : (w1.alloc o).grownBy w2 v1.ownBlock) : YAt w2 y vp vm ∧ Turn (fun _ => False) w w2 := by
  have hs1 : w.heap.size + 1 ≤ w1.heap.size := by have := hg1.size; simpa using this
  have hs2 : w1.heap.size + 1 ≤ w2.heap.size := by have := hg2.size; simpa using this
  have key : ∀ i, i < w.heap.size → w2.heap[i]? = w.heap[i]? := fun i hi => by
    have e1 : w1.heap[i]? = w.heap[i]? := (hg1.block i (by simp; omega) (by simp; omega)).trans (Below.heap_alloc w _ i hi)
    have e2 : w2.heap[i]? = w1.heap[i]? := (hg2.block i (by simp; omega) (fun e => by have := h1.base_le e.symm; omega)).trans (Below.heap_alloc w1 _ i (by omega))
    exact e2.trans e1
  exact ⟨hy.keep (key y hy.lt), ⟨hg2.os.trans hg1.os, hg2.tape.trans hg1.tape, hg2.output.trans hg1.output, by omega, fun i hi _ => key i hi⟩⟩
theorem twice_pairs {w w1 w2 : World} {y : Nat} {vp vm v1 : Value} {ps : List (Key × Key)} {o : Obj} (hy : YAt w y vp vm) (hg1 : (w.alloc (.cells #[] 70)).grownBy w1 (some w.heap.size)) (h1 : OwnP w1 w.heap.size v1 ([] ++ ps))
    (hg2 : (w1.alloc o).grownBy w2 v1.ownBlock) : YAt w2 y vp vm ∧ Turn (fun _ => False) w w2 := by
  have hs1 : w.heap.size + 1 ≤ w1.heap.size := by have := hg1.size; simpa using this
  have hs2 : w1.heap.size + 1 ≤ w2.heap.size := by have := hg2.size; simpa using this
  have key : ∀ i, i < w.heap.size → w2.heap[i]? = w.heap[i]? := fun i hi => by
    have e1 : w1.heap[i]? = w.heap[i]? := (hg1.block i (by simp; omega) (by simp; omega)).trans (Below.heap_alloc w _ i hi)
    have e2 : w2.heap[i]? = w1.heap[i]? := (hg2.block i (by simp; omega) (fun e => by have := h1.base_le e.symm; omega)).trans (Below.heap_alloc w1 _ i (by omega))
    exact e2.trans e1
  exact ⟨hy.keep (key y hy.lt), ⟨hg2.os.trans hg1.os, hg2.tape.trans hg1.tape, hg2.output.trans hg1.output, by omega, fun i hi _ => key i hi⟩⟩

def MidR (w : World) (y : Nat) (vp : Value) (r : RS) (a : Key) (wx : World) : Prop := ∃ v2, YAt wx y vp v2 ∧ SL wx v2 ((r.ms ++ [a]).map toB) ∧ Turn (fun i => i = y) w wx ∧ ∀ g, v2.ownBlock = some g → w.heap.size ≤ g

set_option maxHeartbeats 2000000 in
theorem rmention_no (w : World) (y : Nat) (vp vm : Value) (r : RS) (a : ByteArray) (h : RLin w y vp vm r) (hk : a.data.toList ∉ r.ms) (hl1 : r.ps.length ≤ 900000) (hl2 : r.ms.length ≤ 900000) :
    Calls Try.prog 33 #[.pointer (some ⟨y, 0, none⟩), .string a] w (RDone w y vp vm (r.mention a.data.toList)) := by
  have hy : YAt w y vp vm := h.yc
  have c0 := hy.c0
  have c1 := hy.c1
  have hylt := hy.lt
  have HY := Lib.hid hy
  have hin := in_no w vm r.ms a h.m hk
  have HM : Hid (SL (w.alloc (.cells #[] 9)) vm (r.ms.map toB)) := Lib.hid (h.m.turn (Turn.alloc (fun _ => False) w _) (fun _ _ h => h))
  have HO := Lib.hid (ownS_start w)
  have HL2 : Hid (([] : List Key).length + r.ms.length ≤ 1000000 ∧ ([] ++ r.ms).length + [a.data.toList].length ≤ 1000000) := Lib.hid ⟨by simp; omega, by simp; omega⟩
  have HH := Lib.hid h
  clear h hy
  go_enter Try.func33, Try.ntmps33
  go_upto_region 1 with (go_at_call 24; refine hin.mono ?_; rintro en w' ⟨rfl, rfl⟩)
  go_cut [] (fun wx => MidR w y vp r a.data.toList wx)
  case first =>
    go_wp2_with (first | (at_builtin; refine wpList_append_words _ rfl (.tmp 12) (.tmp 16) rfl w.heap.size _ _ [] r.ms rfl rfl HO.out HM.out HL2.out.1 (by simp) ?_; intro v1 w1 hown1 hg1; have HO1 := Lib.hid hown1; have HG1 := Lib.hid hg1; clear hown1 hg1) | (at_builtin; refine wpList_append_words _ rfl (.tmp 17) (.tmp 19) rfl w.heap.size _ _ ([] ++ r.ms) [a.data.toList] rfl rfl (HO1.out.below (boxed_below _ _)) (sl_one _ a) HL2.out.2 (by have := HG1.out.size; simp at this ⊢; omega) ?_; intro v2 w2 hown2 hg2; obtain ⟨A2, n2, c2, rfl⟩ := ownS_form hown2; obtain ⟨hy2, ht2⟩ := twice_words HY.out HG1.out HO1.out hg2; have HO2 := Lib.hid hown2; have HT2 := Lib.hid ht2; have HY2 := Lib.hid hy2; have q1 := hy2.c1; have f1 := hy2.fr 1; clear hown2 hg2 hy2 ht2))
    go_meet
    have hsl := HO2.out.sl (by have := HL2.out.2; simp at this ⊢; omega)
    have hne : ∀ g, (Value.slice A2 n2 c2).ownBlock = some g → w.heap.size ≤ g := fun g hg => HO2.out.base_le hg
    refine ⟨_, HY2.out.set1 _, ?_, (HT2.out.mono (fun _ h => h.elim)).trans (turn_set _ _ _ _), hne⟩
    exact hsl.turn (turn_set _ y 1 _) (fun g hg e => by have := hne g hg; omega)
  case rest =>
    obtain ⟨v2, hy2, hsl, ht, hf⟩ := hcut
    have HY2 := Lib.hid hy2
    have HSL := Lib.hid hsl
    have HT := Lib.hid ht
    have HF := Lib.hid hf
    have d0 := hy2.c0
    have hylt2 := hy2.lt
    have HP : Hid (PL (wc.alloc (.cells #[] 70)) vp r.ps) := Lib.hid ((HH.out.p.turn ht (fun g hg => HH.out.py g hg)).turn (Turn.alloc (fun _ => False) wc _) (fun _ _ h => h))
    have HQ := Lib.hid (ownP_start wc)
    have HL1 : Hid (([] : List (Key × Key)).length + r.ps.length ≤ 1000000 ∧ ([] ++ r.ps).length + [(a.data.toList, a.data.toList)].length ≤ 1000000) := Lib.hid ⟨by simp; omega, by simp; omega⟩
    clear hy2 hsl ht hf c0 c1 hylt
    go_wp2_with (first | (at_builtin; refine wpList_append_pairs _ rfl (.tmp 24) (.tmp 28) rfl wc.heap.size _ _ [] r.ps rfl rfl HQ.out HP.out HL1.out.1 (by simp) ?_; intro v3 w3 hown3 hg3; have HO3 := Lib.hid hown3; have HG3 := Lib.hid hg3; clear hown3 hg3) | (at_builtin; refine wpList_append_pairs _ rfl (.tmp 29) (.tmp 33) rfl wc.heap.size _ _ ([] ++ r.ps) [(a.data.toList, a.data.toList)] rfl rfl (HO3.out.below (boxed_below _ _)) (pl_one _ a a) HL1.out.2 (by have := HG3.out.size; simp at this ⊢; omega) ?_; intro v4 w4 hown4 hg4; obtain ⟨A4, n4, c4, rfl⟩ := ownP_form hown4; obtain ⟨hy4, ht4⟩ := twice_pairs HY2.out HG3.out HO3.out hg4; have HO4 := Lib.hid hown4; have HT4 := Lib.hid ht4; have HY4 := Lib.hid hy4; have q0 := hy4.c0; have f0 := hy4.fr 0; clear hown4 hg4 hy4 ht4))
    have hne : ∀ g, (Value.slice A4 n4 c4).ownBlock = some g → wc.heap.size ≤ g := fun g hg => HO4.out.base_le hg
    have hms : r.mention a.data.toList = ⟨r.ps ++ [(a.data.toList, a.data.toList)], r.ms ++ [a.data.toList]⟩ := by unfold RS.mention; rw [if_neg hk]
    have hpl := HO4.out.pl (by have := HL1.out.2; simp at this ⊢; omega)
    have hsz := HT.out.size
    have hfin : RDone w y vp vm (r.mention a.data.toList) (.returned (.tuple #[])) (w4.setCell ⟨y, 0, none⟩ (Value.slice A4 n4 c4)) := by
      rw [hms]
      refine ⟨rfl, _, v2, ⟨HY4.out.set0 _, hpl.turn (turn_set _ y 0 _) (fun g hg e => by have := hne g hg; omega), (HSL.out.turn HT4.out (fun _ _ h => h)).turn (turn_set _ y 0 _) (fun g hg e => by have := HF.out g hg; have := HH.out.yc; have := YAt.lt (show YAt w y vp vm from HH.out.yc); omega), fun g hg => by have := hne g hg; omega, fun g hg => by have := HF.out g hg; have := YAt.lt (show YAt w y vp vm from HH.out.yc); omega⟩, ?_, .inr fun g hg => by have := hne g hg; omega, .inr HF.out⟩
      exact (HT.out.trans (HT4.out.mono (fun _ h => h.elim))).trans (turn_set _ _ _ _)
    go_end0
    exact hfin

/-- mention. -/
theorem rmention_any (w : World) (y : Nat) (vp vm : Value) (r : RS) (a : ByteArray) (h : RLin w y vp vm r) (hl1 : r.ps.length ≤ 900000) (hl2 : r.ms.length ≤ 900000) :
    Calls Try.prog 33 #[.pointer (some ⟨y, 0, none⟩), .string a] w (RDone w y vp vm (r.mention a.data.toList)) := by
  by_cases hk : a.data.toList ∈ r.ms
  · have c1 := h.c1
    have hin := in_yes w vm r.ms a h.m hk
    have HF : Hid (RDone w y vp vm (r.mention a.data.toList) (.returned (.tuple #[])) w) := Lib.hid ⟨rfl, by unfold RS.mention; rw [if_pos hk]; exact RChange.refl h⟩
    clear h hk
    go_enter Try.func33, Try.ntmps33
    go_wp2_with (go_at_call 24; refine hin.mono ?_; rintro en w' ⟨rfl, rfl⟩)
    go_end0
    exact HF.out
  · exact rmention_no w y vp vm r a h hk hl1 hl2

set_option maxHeartbeats 2000000 in
theorem radd_no (w : World) (y : Nat) (vp vm : Value) (r : RS) (a b : ByteArray) (h : RLin w y vp vm r) (hk : r.pair a.data.toList b.data.toList = false) (hl1 : r.ps.length ≤ 900000) :
    Calls Try.prog 34 #[.pointer (some ⟨y, 0, none⟩), .string a, .string b] w (RDone w y vp vm (r.add a.data.toList b.data.toList)) := by
  have hpair := pair_any w y vp vm r a b h
  have hr : r.add a.data.toList b.data.toList = ⟨r.ps ++ [(a.data.toList, b.data.toList)], r.ms⟩ := by unfold RS.add; rw [hk, if_neg (by simp)]
  unfold PairPost at hpair
  rw [hk] at hpair
  rw [hr]
  have hy : YAt w y vp vm := h.yc
  have d0 := hy.c0
  have hylt := hy.lt
  have HY := Lib.hid hy
  have HH := Lib.hid h
  have HP : Hid (PL (w.alloc (.cells #[] 70)) vp r.ps) := Lib.hid (h.p.turn (Turn.alloc (fun _ => False) w _) (fun _ _ h => h))
  have HQ := Lib.hid (ownP_start w)
  have HL1 : Hid (([] : List (Key × Key)).length + r.ps.length ≤ 1000000 ∧ ([] ++ r.ps).length + [(a.data.toList, b.data.toList)].length ≤ 1000000) := Lib.hid ⟨by simp; omega, by simp; omega⟩
  clear h hk hr hy
  go_enter Try.func34, Try.ntmps34
  go_wp2_with (first | (go_at_call 32; refine hpair.mono ?_; rintro en w' ⟨rfl, rfl⟩) | (at_builtin; refine wpList_append_pairs _ rfl (.tmp 12) (.tmp 16) rfl w.heap.size _ _ [] r.ps rfl rfl HQ.out HP.out HL1.out.1 (by simp) ?_; intro v3 w3 hown3 hg3; have HO3 := Lib.hid hown3; have HG3 := Lib.hid hg3; clear hown3 hg3) | (at_builtin; refine wpList_append_pairs _ rfl (.tmp 17) (.tmp 21) rfl w.heap.size _ _ ([] ++ r.ps) [(a.data.toList, b.data.toList)] rfl rfl (HO3.out.below (boxed_below _ _)) (pl_one _ a b) HL1.out.2 (by have := HG3.out.size; simp at this ⊢; omega) ?_; intro v4 w4 hown4 hg4; obtain ⟨A4, n4, c4, rfl⟩ := ownP_form hown4; obtain ⟨hy4, ht4⟩ := twice_pairs HY.out HG3.out HO3.out hg4; have HO4 := Lib.hid hown4; have HT4 := Lib.hid ht4; have HY4 := Lib.hid hy4; have q0 := hy4.c0; have f0 := hy4.fr 0; clear hown4 hg4 hy4 ht4))
  have hne : ∀ g, (Value.slice A4 n4 c4).ownBlock = some g → w.heap.size ≤ g := fun g hg => HO4.out.base_le hg
  have hpl := HO4.out.pl (by have := HL1.out.2; simp at this ⊢; omega)
  have hfin : RDone w y vp vm ⟨r.ps ++ [(a.data.toList, b.data.toList)], r.ms⟩ (.returned (.tuple #[])) (w4.setCell ⟨y, 0, none⟩ (Value.slice A4 n4 c4)) := by
    refine ⟨rfl, _, vm, ⟨HY4.out.set0 _, hpl.turn (turn_set _ y 0 _) (fun g hg e => by have := hne g hg; omega), (HH.out.m.turn HT4.out (fun _ _ h => h)).turn (turn_set _ y 0 _) (fun g hg => HH.out.my g hg), fun g hg => by have := hne g hg; omega, HH.out.my⟩, ?_, .inr hne, .inl rfl⟩
    exact (HT4.out.mono (fun _ h => h.elim)).trans (turn_set _ _ _ _)
  go_end0
  exact hfin
theorem radd_any (w : World) (y : Nat) (vp vm : Value) (r : RS) (a b : ByteArray) (h : RLin w y vp vm r) (hl1 : r.ps.length ≤ 900000) :
    Calls Try.prog 34 #[.pointer (some ⟨y, 0, none⟩), .string a, .string b] w (RDone w y vp vm (r.add a.data.toList b.data.toList)) := by
  cases hk : r.pair a.data.toList b.data.toList with
  | true =>
    have hpair := pair_any w y vp vm r a b h
    unfold PairPost at hpair
    rw [hk] at hpair
    have HF : Hid (RDone w y vp vm (r.add a.data.toList b.data.toList) (.returned (.tuple #[])) w) := Lib.hid ⟨rfl, by unfold RS.add; rw [if_pos hk]; exact RChange.refl h⟩
    clear h hk
    go_enter Try.func34, Try.ntmps34
    go_wp2_with (go_at_call 32; refine hpair.mono ?_; rintro en w' ⟨rfl, rfl⟩)
    go_end0
    exact HF.out
  | false => exact radd_no w y vp vm r a b h hk hl1

end Go.Proofs.Ytkbjfmlfmmmknaa
