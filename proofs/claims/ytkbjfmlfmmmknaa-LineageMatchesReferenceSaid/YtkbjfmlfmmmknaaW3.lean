/- What mention leaves, said of a lineage. -/
import Derived.Test.YtkbjfmlfmmmknaaW2
namespace Go.Proofs.Ytkbjfmlfmmmknaa
open Go.RowKit Go.Maps Go.WideMaps Go.ChangeMaps

/-- behind a call that mentions an Id. -/
def MentPost (w : World) (x : Nat) (F : Nat → Prop) (n : Nat) (st : St) (bo : Nat) (e : Ending) (w' : World) : Prop :=
  e = .returned (.tuple #[]) ∧ ∃ F' D' blk', LinAt w' x F' (n + 1) st bo D' blk' ∧ Turn F w w' ∧ (∀ i, F i → F' i) ∧ ∀ i, F' i → F i ∨ w.heap.size ≤ i

theorem drew_block (w : World) (i : Nat) : w.drew.heap[i]? = w.heap[i]? := rfl

theorem LinAt.xo {w : World} {x n bo : Nat} {F : Nat → Prop} {st : St} {D : DataW Unit} {blk : Key → Nat} (h : LinAt w x F n st bo D blk) : x ≠ bo := by
  rintro rfl
  obtain ⟨es, clock, hb, _⟩ := h.own
  rw [h.xc] at hb
  cases hb
theorem LinAt.xblk {w : World} {x n bo : Nat} {F : Nat → Prop} {st : St} {D : DataW Unit} {blk : Key → Nat} (h : LinAt w x F n st bo D blk) {k : Key} {S : Key → Bool} (hk : st k = some S) : x ≠ blk k := by
  intro e
  obtain ⟨_, ⟨D', ⟨es, clock, hb, _⟩, _⟩, _⟩ := h.at_ k S hk
  rw [← e, h.xc] at hb
  cases hb

theorem mention_some (w : World) (x n bo : Nat) (F : Nat → Prop) (st : St) (D : DataW Unit) (blk : Key → Nat) (s : ByteArray) (S : Key → Bool) (h : LinAt w x F n st bo D blk) (hs : s.size ≤ maxLen) (hn : n < maxLen) (hk : st s.data.toList = some S) :
    Calls Try.prog 31 #[.pointer (some ⟨x, 0, none⟩), .string s] w (MentPost w x F n (mentionS st s.data.toList) bo) := by
  refine (mention_some_raw w x n bo F st D blk s S h hs hn hk).mono ?_
  rintro e w' ⟨rfl, ho⟩
  generalize hkk : s.data.toList = k at *
  have hst : mentionS st k = st := by
    funext j
    unfold mentionS ofS
    by_cases e : j = k
    · subst e; rw [hk]; simp
    · rw [if_neg e]
  rw [hst]
  have hbl : ∀ i, i < w.heap.size → i ≠ bo → w'.heap[i]? = w.heap[i]? := fun i hi hne => (ho.grown.block i hi (by simpa using hne)).trans (drew_block w i)
  have hT : Turn F w w' := ⟨ho.grown.os, ho.grown.tape, ho.grown.output, ho.grown.size, fun i hi hF => hbl i hi (fun e => hF (e ▸ h.Fo))⟩
  have hm := h.own.isMap
  refine ⟨rfl, F, _, blk, ⟨?_, ho.own, ?_, ?_, h.inj, h.Fx, h.Fo, fun i hi => Nat.lt_of_lt_of_le (h.lt i hi) hT.size⟩, hT, fun _ hi => hi, fun i hi => .inl hi⟩
  · rw [hbl x (h.lt x h.Fx) h.xo]; exact h.xc
  · intro j
    by_cases e : j = k
    · subst e; rw [has_put_same hm (isKey_str j), hk]; rfl
    · rw [has_put_other (strLit_ne e), h.has_]
  · intro j T hj
    obtain ⟨h1, h2, h3, h4⟩ := h.at_ j T hj
    refine ⟨?_, (h2.of_block (hbl _ (h.lt _ h3) h4)).mono (by omega), h3, h4⟩
    by_cases e : j = k
    · subst e; rw [atKey_put_same hm (isKey_str j)]
    · rw [atKey_put_other (strLit_ne e)]; exact h1

theorem mention_none (w : World) (x n bo : Nat) (F : Nat → Prop) (st : St) (D : DataW Unit) (blk : Key → Nat) (s : ByteArray) (h : LinAt w x F n st bo D blk) (hs : s.size ≤ maxLen) (hn : n < maxLen) (hk : st s.data.toList = none) :
    Calls Try.prog 31 #[.pointer (some ⟨x, 0, none⟩), .string s] w (MentPost w x F n (mentionS st s.data.toList) bo) := by
  refine (mention_none_raw w x n bo F st D blk s h hs hn hk).mono ?_
  rintro e w' ⟨rfl, w1, hs1, hg1, ho⟩
  generalize hkk : s.data.toList = k at *
  have hsz1 := hg1.size
  have hlt1 := hs1.lt
  have hob : bo ≠ w.heap.size := by have := h.lt bo h.Fo; omega
  have hbl : ∀ i, i < w.heap.size → i ≠ bo → w'.heap[i]? = w.heap[i]? := fun i hi hne => (ho.grown.block i (by omega) (by simpa using hne)).trans (hg1.block i hi (by simp))
  have hnew : w'.heap[w.heap.size]? = w1.heap[w.heap.size]? := ho.grown.block _ hlt1 (by simpa using Ne.symm hob)
  have hT : Turn F w w' := ⟨ho.grown.os.trans hg1.os, ho.grown.tape.trans hg1.tape, ho.grown.output.trans hg1.output, Nat.le_trans hsz1 ho.grown.size, fun i hi hF => hbl i hi (fun e => hF (e ▸ h.Fo))⟩
  have hm := h.own.isMap
  have hms : ∀ j, mentionS st k j = if j = k then some (fun i => i == k) else st j := fun j => by
    unfold mentionS ofS; rw [hk]
  have hold : ∀ j, (st j).isSome = true → j ≠ k := fun j hj e => by subst e; rw [hk] at hj; cases hj
  have hblt : ∀ j, (st j).isSome = true → blk j < w.heap.size := fun j hj => by
    obtain ⟨S, hS⟩ := Option.isSome_iff_exists.1 hj
    exact h.lt _ (h.at_ j S hS).2.2.1
  refine ⟨rfl, fun i => F i ∨ i = w.heap.size, _, fun j => if j = k then w.heap.size else blk j, ⟨?_, ho.own, ?_, ?_, ?_, .inl h.Fx, .inl h.Fo, ?_⟩, hT, fun _ hi => .inl hi, ?_⟩
  · rw [hbl x (h.lt x h.Fx) h.xo]; exact h.xc
  · intro j
    rw [hms]
    by_cases e : j = k
    · subst e; rw [has_put_same hm (isKey_str j)]; simp
    · rw [has_put_other (strLit_ne e), h.has_, if_neg e]
  · intro j T hj
    rw [hms] at hj
    by_cases e : j = k
    · subst e
      simp only [if_true, Option.some.injEq] at hj ⊢
      subst hj
      exact ⟨atKey_put_same hm (isKey_str j) _ _, (hs1.of_block hnew).mono (by omega), .inr trivial, Ne.symm hob⟩
    · simp only [if_neg e] at hj ⊢
      obtain ⟨h1, h2, h3, h4⟩ := h.at_ j T hj
      exact ⟨by rw [atKey_put_other (strLit_ne e)]; exact h1, (h2.of_block (hbl _ (h.lt _ h3) h4)).mono (by omega), .inl h3, h4⟩
  · intro i j hi hj he
    rw [hms] at hi hj
    by_cases ei : i = k <;> by_cases ej : j = k
    · rw [ei, ej]
    · simp only [if_pos ei, if_neg ej] at he hj
      have := hblt j hj; omega
    · simp only [if_neg ei, if_pos ej] at he hi
      have := hblt i hi; omega
    · simp only [if_neg ei, if_neg ej] at he hi hj
      exact h.inj i j hi hj he
  · rintro i (hi | rfl)
    · exact Nat.lt_of_lt_of_le (h.lt i hi) hT.size
    · exact Nat.lt_of_lt_of_le hlt1 ho.grown.size
  · rintro i (hi | rfl)
    · exact .inl hi
    · exact .inr (Nat.le_refl _)

theorem mention_any (w : World) (x n bo : Nat) (F : Nat → Prop) (st : St) (D : DataW Unit) (blk : Key → Nat) (s : ByteArray) (h : LinAt w x F n st bo D blk) (hs : s.size ≤ maxLen) (hn : n < maxLen) :
    Calls Try.prog 31 #[.pointer (some ⟨x, 0, none⟩), .string s] w (MentPost w x F n (mentionS st s.data.toList) bo) := by
  cases hk : st s.data.toList with
  | none => exact mention_none w x n bo F st D blk s h hs hn hk
  | some S => exact mention_some w x n bo F st D blk s S h hs hn hk

/-- 'of', at whatever Id. -/
def OfPost (w : World) (n : Nat) (S : Key → Bool) (e : Ending) (w' : World) : Prop :=
  ∃ b, e = .returned (.map (some b)) ∧ SetAt w' b (n + 1) S ∧ w.grownBy w' none

theorem of_any (w : World) (x n bo : Nat) (F : Nat → Prop) (st : St) (D : DataW Unit) (blk : Key → Nat) (s : ByteArray) (h : LinAt w x F n st bo D blk) (hs : s.size ≤ maxLen) :
    Calls Try.prog 29 #[.pointer (some ⟨x, 0, none⟩), .string s] w (OfPost w n (ofS st s.data.toList)) := by
  cases hk : st s.data.toList with
  | none =>
    refine (of_none w x n bo F st D blk s h hs hk).mono ?_
    rintro e w' ⟨rfl, h1, h2⟩
    have : ofS st s.data.toList = fun j => j == s.data.toList := by unfold ofS; rw [hk]
    rw [this]
    exact ⟨_, rfl, h1.mono (by omega), h2⟩
  | some S =>
    refine (of_some w x n bo F st D blk s S h hs hk).mono ?_
    rintro e w' ⟨rfl, rfl⟩
    have : ofS st s.data.toList = S := by unfold ofS; rw [hk]
    rw [this]
    exact ⟨_, rfl, ((h.at_ _ _ hk).2.1).mono (by omega), World.grownBy.refl w _⟩

end Go.Proofs.Ytkbjfmlfmmmknaa
