/- What holds behind any edits: the sets' invariant, which Ids there are, how many. -/
import Derived.Test.YtkbjfmlfmmmknaaL4
import Derived.Test.YtkbjfmlfmmmknaaPureLaws
namespace Go.Proofs.Ytkbjfmlfmmmknaa
open Go.RowKit Go.Maps Go.WideMaps Go.ChangeMaps Go.Sort

theorem inv_runs : ∀ (es : List EdC) (st : St), Inv st → Inv (runS st es)
  | [], _, h => h
  | e :: es, st, h => inv_runs es _ (h.step e.ed)
theorem inv_run (es : List EdC) : Inv (runS (fun _ => none) es) := inv_runs es _ inv_start

def idsOf (es : List EdC) : List Key := es.flatMap fun e => [e.id.data.toList, e.other.data.toList]
theorem idsOf_length (es : List EdC) : (idsOf es).length = 2 * es.length := by
  unfold idsOf
  induction es with
  | nil => rfl
  | cons e es ih => rw [List.flatMap_cons, List.length_append, ih]; simp; omega
theorem idsOf_size {es : List EdC} (h : ∀ e ∈ es, e.ok) {k : Key} (hk : k ∈ idsOf es) : k.length ≤ maxLen := by
  unfold idsOf at hk
  obtain ⟨e, he, hke⟩ := List.mem_flatMap.1 hk
  have hok := h e he
  rcases List.mem_cons.1 hke with rfl | hke
  · simpa using hok.id
  · rcases List.mem_cons.1 hke with rfl | hke
    · simpa using hok.other
    · cases hke

theorem ids_step {st : St} {L : List Key} (e : Ed) (h : ∀ j k, ofS st j k = true → k = j ∨ k ∈ L) (j k : Key) (hk : ofS (step st e) j k = true) : k = j ∨ k ∈ L ∨ k = e.id ∨ k = e.other := by
  by_cases h0 : err st e = 0
  · rw [ofS_step h0] at hk
    by_cases h5 : e.op = 5
    · rw [upd5 h5] at hk
      simp only [Bool.and_eq_true] at hk
      exact (h j k hk.1).imp id .inl
    by_cases h6 : e.op = 6
    · rw [upd6 h6] at hk
      simp only [Bool.or_eq_true, Bool.and_eq_true, beq_iff_eq] at hk
      rcases hk with hk | ⟨rfl, _⟩
      · exact (h j k hk).imp id .inl
      · exact .inr (.inr (.inr rfl))
    by_cases h7 : e.op = 7
    · rw [upd7 h7] at hk
      simp only [Bool.or_eq_true, Bool.and_eq_true, beq_iff_eq] at hk
      rcases hk with ⟨hk, _⟩ | ⟨rfl, _⟩
      · exact (h j k hk).imp id .inl
      · exact .inr (.inr (.inl rfl))
    · rw [updN h5 h6 h7] at hk
      exact (h j k hk).imp id .inl
  · rw [step_same h0] at hk
    exact (h j k hk).imp id .inl
theorem ids_run (es : List EdC) : ∀ (st : St) (L : List Key), (∀ j k, ofS st j k = true → k = j ∨ k ∈ L) → ∀ j k, ofS (runS st es) j k = true → k = j ∨ k ∈ L ∨ k ∈ idsOf es := by
  induction es with
  | nil => intro st L h j k hk; exact (h j k hk).imp id .inl
  | cons e es ih =>
    intro st L h j k hk
    have h1 : ∀ j k, ofS (step st e.ed) j k = true → k = j ∨ k ∈ L ++ [e.id.data.toList, e.other.data.toList] := fun j k hk => by
      rcases ids_step e.ed h j k hk with h | h | h | h
      · exact .inl h
      · exact .inr (by simp [h])
      · exact .inr (by rw [h]; simp [EdC.ed])
      · exact .inr (by rw [h]; simp [EdC.ed])
    rcases ih _ _ h1 j k hk with h2 | h2 | h2
    · exact .inl h2
    · rcases List.mem_append.1 h2 with h3 | h3
      · exact .inr (.inl h3)
      · exact .inr (.inr (by unfold idsOf; rw [List.flatMap_cons]; exact List.mem_append.2 (.inl h3)))
    · exact .inr (.inr (by unfold idsOf at h2 ⊢; rw [List.flatMap_cons]; exact List.mem_append.2 (.inr h2)))
theorem ids_start (es : List EdC) {j k : Key} (hk : ofS (runS (fun _ => none) es) j k = true) : k = j ∨ k ∈ idsOf es := by
  rcases ids_run es _ [] (fun j k h => .inl (by simpa [ofS] using h)) j k hk with h | h | h
  · exact .inl h
  · cases h
  · exact .inr h

theorem rising_length : ∀ {l m : List Key}, l.Pairwise (· < ·) → (∀ k ∈ l, k ∈ m) → l.length ≤ m.length
  | [], m, _, _ => Nat.zero_le _
  | a :: r, m, h, hs => by
    obtain ⟨h1, h2⟩ := List.pairwise_cons.1 h
    have ha := hs a (by simp)
    have := rising_length (m := m.erase a) h2 (fun k hk => by
      refine (List.mem_erase_of_ne ?_).2 (hs k (List.mem_cons_of_mem _ hk))
      rintro rfl
      exact absurd (h1 k hk) (List.lt_irrefl k))
    have hl := List.length_erase_of_mem ha
    have hp := List.length_pos_of_mem ha
    simp only [List.length_cons]
    omega

/-- The parts of an Id: how many at most, how long at most. -/
theorem parts_few {es : List EdC} {j : Key} {ks : List Key} (hp : ks.Pairwise (· < ·)) (hm : ∀ k ∈ ks, ofS (runS (fun _ => none) es) j k = true) : ks.length ≤ 2 * es.length + 1 := by
  have := rising_length (m := j :: idsOf es) hp (fun k hk => List.mem_cons.2 (ids_start es (hm k hk)))
  rw [List.length_cons, idsOf_length] at this
  exact this
theorem parts_size {es : List EdC} (hok : ∀ e ∈ es, e.ok) {j : Key} (hj : j.length ≤ maxLen) {k : Key} (hk : ofS (runS (fun _ => none) es) j k = true) : k.length ≤ maxLen := by
  rcases ids_start es hk with rfl | h
  · exact hj
  · exact idsOf_size hok h

end Go.Proofs.Ytkbjfmlfmmmknaa
