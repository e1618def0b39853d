/- The range over all sets: what holds between two rounds, what a round finds, what it must leave. -/
import Derived.Test.YtkbjfmlfmmmknaaF0
namespace Go.Proofs.Ytkbjfmlfmmmknaa
open Go.RowKit Go.Maps Go.WideMaps Go.ChangeMaps

/-- Between two rounds: the sets that are still to come are as they were, the others are turned by the edit. -/
structure LoopI (e : Ed) (w0 wr : World) (x : Nat) (F : Nat → Prop) (N : Nat) (st : St) (bo : Nat) (D : DataW Unit) (blk : Key → Nat) (r : Nat) (left : Lit → Bool) (cnt : Nat) : Prop where
  lin : ∃ w1, LinAt w1 x F N st bo D blk
  hr : ¬ F r
  rg : wr.ranges Try.prog 9 Rout bo r N D left cnt
  tn : Turn (fun i => F i ∨ i = r) w0 wr
  lt : ∀ i, F i → i < wr.heap.size
  xc : wr.heap[x]? = some (.cells #[.map (some bo)] 55 (0, 0))
  sets : ∀ k S, st k = some S → SetAt wr (blk k) (if left (.string k) = true then N else N + 1) (if left (.string k) = true then S else upd e S)

/-- In a round that has come to k: all but k's set is as it must be between rounds. -/
structure LoopM (e : Ed) (w0 wr : World) (x : Nat) (F : Nat → Prop) (N : Nat) (st : St) (bo : Nat) (D : DataW Unit) (blk : Key → Nat) (r : Nat) (left : Lit → Bool) (cnt : Nat) (k : Key) (S : Key → Bool) : Prop where
  lin : ∃ w1, LinAt w1 x F N st bo D blk
  hr : ¬ F r
  rg : wr.ranges Try.prog 9 Rout bo r N D left cnt
  tn : Turn (fun i => F i ∨ i = r) w0 wr
  lt : ∀ i, F i → i < wr.heap.size
  xc : wr.heap[x]? = some (.cells #[.map (some bo)] 55 (0, 0))
  hk : st k = some S
  gone : left (.string k) = false
  own : SetAt wr (blk k) N S
  sets : ∀ j T, st j = some T → j ≠ k → SetAt wr (blk j) (if left (.string j) = true then N else N + 1) (if left (.string j) = true then T else upd e T)

section
variable {e : Ed} {w0 wr w' : World} {x N bo r cnt : Nat} {F : Nat → Prop} {st : St} {D : DataW Unit} {blk : Key → Nat} {left : Lit → Bool} {k : Key} {S : Key → Bool}

theorem LoopM.fin (h : LoopM e w0 wr x F N st bo D blk r left cnt k S) (hg : wr.grownBy w' (some (blk k))) (hs : SetAt w' (blk k) (N + 1) (upd e S)) : LoopI e w0 w' x F N st bo D blk r left cnt := by
  obtain ⟨w1, hl⟩ := h.lin
  obtain ⟨_, _, h3, h4⟩ := hl.at_ k S h.hk
  have hbk : bo ≠ blk k := fun e => h4 e.symm
  have hrk : r ≠ blk k := fun e => h.hr (e ▸ h3)
  refine ⟨h.lin, h.hr, h.rg.kept hg (by simpa using hbk) (by simpa using hrk), h.tn.trans (Turn.of_grown hg (fun i hi => .inl (by cases hi; exact h3))), fun i hi => Nat.lt_of_lt_of_le (h.lt i hi) hg.size, ?_, ?_⟩
  · rw [hg.block x (h.lt x hl.Fx) (by simpa using hl.xblk h.hk)]; exact h.xc
  · intro j T hj
    by_cases ej : j = k
    · subst ej
      have hTS : T = S := by rw [h.hk] at hj; exact (Option.some.inj hj).symm
      rw [hTS, h.gone]
      simpa using hs
    · have hne : blk j ≠ blk k := fun e => ej (hl.inj j k (by rw [hj]; rfl) (by rw [h.hk]; rfl) e)
      have hj' := h.sets j T hj ej
      exact hj'.of_block (hg.block _ hj'.lt (by simpa using hne))

/-- .. where the edit does not turn this set. -/
theorem LoopM.same (h : LoopM e w0 wr x F N st bo D blk r left cnt k S) (hu : upd e S = S) : LoopI e w0 wr x F N st bo D blk r left cnt :=
  h.fin (World.grownBy.refl wr _) (by rw [hu]; exact h.own.mono (by omega))

theorem upd_same (e : Ed) (S : Key → Bool) (h5 : e.op ≠ 5) (h6 : e.op = 6 → S e.id = false) (h7 : e.op = 7 → S e.other = false) : upd e S = S := by
  unfold upd
  rw [if_neg h5, if_neg (fun h => by have := h6 h.1; rw [this] at h; exact absurd h.2 (by simp)), if_neg (fun h => by have := h7 h.1; rw [this] at h; exact absurd h.2 (by simp))]

/-- The range begins. -/
theorem LoopI.start (h : LinAt w0 x F N st bo D blk) (hg : w0.grownBy w' none) (hrg : w'.ranges Try.prog 9 Rout bo w0.heap.size N D (has D) (size D)) : LoopI e w' w' x F N st bo D blk w0.heap.size (has D) (size D) := by
  have h' : LinAt w' x F N st bo D blk := h.turn (G := fun _ => False) (Turn.of_grown hg (fun i hi => by cases hi)) (fun _ _ h => h)
  refine ⟨⟨w0, h⟩, fun hf => by have := h.lt _ hf; omega, hrg, Turn.refl _ _, h'.lt, h'.xc, fun k S hk => ?_⟩
  have : has D (.string k) = true := by rw [h.has_, hk]; rfl
  rw [this]
  simpa using (h'.at_ k S hk).2.1

/-- The range is over: every set is turned. -/
theorem LoopI.done (h : LoopI e w0 wr x F N st bo D blk r left cnt) (hl0 : ∀ kl, left kl = false) : LinAt wr x F (N + 1) (fun j => (st j).map (upd e)) bo D blk := by
  obtain ⟨w1, hl⟩ := h.lin
  refine ⟨h.xc, h.rg.owns.mono (by omega), fun k => ?_, fun k S hk => ?_, fun i j hi hj => hl.inj i j (by simpa using hi) (by simpa using hj), hl.Fx, hl.Fo, h.lt⟩
  · rw [hl.has_]; simp
  · obtain ⟨T, hT, rfl⟩ := Option.map_eq_some_iff.1 hk
    obtain ⟨h1, _, h3, h4⟩ := hl.at_ k T hT
    have h2 := h.sets k T hT
    rw [hl0] at h2
    exact ⟨h1, by simpa using h2, h3, h4⟩

theorem Rout_map {v : Value} {y : DataW Unit × List MemPlace} (h : Rout v = some y) : ∃ c, v = .map c := by
  unfold Rout at h
  split at h
  · exact ⟨_, rfl⟩
  · exact ⟨_, rfl⟩
  · cases h

/-- A round's step. -/
theorem wpList_next_loop {ops : Array Oper} {rest : List Oper} {o : Oper} {a : Act} {Q : Exit → Act → World → Prop} (hg : o.guard = none) (it : Operand) (hop : o.op = Op.next it false)
    (hit : a.eval it = .pointer (some ⟨r, 0, none⟩)) (h : LoopI e w0 wr x F N st bo D blk r left cnt)
    (hDone : LinAt wr x F (N + 1) (fun j => (st j).map (upd e)) bo D blk → wpList Try.prog ops Q rest (a.put o.dst (.tuple #[.bool false])) wr)
    (hMore : ∀ (k : Key) (S : Key → Bool) (b : Nat) (w' : World) (left' : Lit → Bool) (cnt' : Nat), b = blk k → LoopM e w0 w' x F N st bo D blk r left' cnt' k S → cnt' < cnt → wr.grownBy w' (some r) →
      (Instr.entry (.pointer (some ⟨r, 0, none⟩))).run Try.prog w' = .ok (.tuple #[encStr k, .map (some b)]) w' → wpList Try.prog ops Q rest (a.put o.dst (.tuple #[.bool true, encStr k, .map (some b)])) w') :
    wpList Try.prog ops Q (o :: rest) a wr := by
  refine wpList_next_ranges wr hg it hop 9 K9 Rout encStr Value.map (fun key kl hk => by obtain ⟨k, hk', _⟩ := keyOf_str Try.underlying9 hk; exact ⟨k, hk'⟩) (fun v y hv => Rout_map hv) bo r N D left cnt hit h.rg ?_ ?_
  · intro _ hl0
    exact hDone (h.done hl0)
  · intro k c kl y w' cnt' hkey hlk hv hat hrg hlt hgr hsz hen
    obtain ⟨k', ek, rfl, _⟩ := keyOf_str Try.underlying9 hkey
    obtain rfl : k = k' := encStr_inj ek
    obtain ⟨w1, hl⟩ := h.lin
    have hhas := has_true_of_atKey hat
    rw [hl.has_] at hhas
    obtain ⟨S, hS⟩ := Option.isSome_iff_exists.1 hhas
    obtain ⟨h1, _, h3, h4⟩ := hl.at_ k S hS
    rw [hat .nil] at h1
    have hc : c = some (blk k) := by
      have : y = (.lit (.int .i64 (blk k)), y.2) := by rw [← h1]
      rw [this] at hv
      have := Rout_inv hv
      simpa using this
    subst hc
    have hset := h.sets k S hS
    rw [hlk] at hset
    have hnr : ∀ i, F i → i ≠ r := fun i hi e => h.hr (e ▸ hi)
    refine hMore k S (blk k) w' _ cnt' rfl ⟨h.lin, h.hr, hrg, h.tn.trans (Turn.of_grown hgr (fun i hi => .inr (by cases hi; rfl))), fun i hi => Nat.lt_of_lt_of_le (h.lt i hi) hgr.size, ?_, hS, ?_, ?_, ?_⟩ hlt hgr hen
    · rw [hgr.block x (h.lt x hl.Fx) (by simpa using hnr x hl.Fx)]; exact h.xc
    · simp [Lit.sameKey]
    · exact (show SetAt wr (blk k) N S by simpa using hset).of_block (hgr.block _ (h.lt _ h3) (by simpa using hnr _ h3))
    · intro j T hj hne
      have hj' := h.sets j T hj
      have e1 : (left (.string j) && !(Lit.string j).sameKey (.string k)) = left (.string j) := by
        rw [sameKey_ne (strLit_ne hne)]; simp
      simp only [e1]
      obtain ⟨_, _, h3', _⟩ := hl.at_ j T hj
      exact hj'.of_block (hgr.block _ (h.lt _ h3') (by simpa using hnr _ h3'))

/-! ### the round's stores -/
/-- s[k] = true, at the set of a round. -/
theorem SetAt.store {w : World} {b n : Nat} {S : Key → Bool} (h : SetAt w b n S) {s : ByteArray} (hs : s.size ≤ maxLen) (hn : n < maxLen) :
    ∃ w', (Instr.mapUpdate 60 (.map (some b)) (.string s) (.bool true)).run Try.prog w = .ok () w' ∧ SetAt w' b (n + 1) (fun j => S j || j == s.data.toList) ∧ w.grownBy w' (some b) := by
  obtain ⟨D, hown, h1, h2⟩ := h
  obtain ⟨w', hrun, o1, o2⟩ := hown.update K9 Try.underlying60 hn (keyOf_string_mk Try.underlying9 hs) (plainElem_bool Try.underlying4 true)
  exact ⟨w', hrun, ⟨_, o1, set_put hown.isMap h1 h2 _⟩, o2⟩

/-- delete(s, k), at the set of a round. -/
theorem SetAt.drop {w : World} {b n : Nat} {S : Key → Bool} (h : SetAt w b n S) {s : ByteArray} (hs : s.size ≤ maxLen) (ty : TypeId) :
    ∃ w', (Builtin.delete_ #[60, 9] ty #[.map (some b), .string s]).run Try.prog w = .ok (.tuple #[]) w' ∧ SetAt w' b n (fun j => S j && !(j == s.data.toList)) ∧ w.grownBy w' (some b) := by
  obtain ⟨D, hown, h1, h2⟩ := h
  obtain ⟨w', hrun, o1, o2⟩ := hown.drop K9 Try.underlying60 (keyOf_string_mk Try.underlying9 hs) ty
  exact ⟨w', hrun, ⟨_, o1, set_del h1 h2 _⟩, o2.grown⟩

end
end Go.Proofs.Ytkbjfmlfmmmknaa
