/- The chapter's examples, reckoned in plain Lean. -/
import Derived.Test.YtkbjfmlfmmmknaaPure
namespace Go.Proofs.Ytkbjfmlfmmmknaa

def H0 : St := fun _ => none
def H1 : St := step H0 ⟨6, [119], [118], []⟩
def H2 : St := step H1 ⟨6, [118], [117], []⟩
def H3 : St := step H2 ⟨5, [119], [], []⟩
def H4 : St := step H3 ⟨7, [118], [117], []⟩
def H5 : St := step H4 ⟨5, [118], [], []⟩

theorem err1 : err H0 ⟨6, [119], [118], []⟩ = 0 := by decide
theorem err2 : err H1 ⟨6, [118], [117], []⟩ = 0 := by decide
theorem err3 : err H2 ⟨5, [119], [], []⟩ = 0 := by decide
theorem err4 : err H3 ⟨7, [118], [117], []⟩ = 0 := by decide
theorem err5 : err H4 ⟨5, [118], [], []⟩ = 0 := by decide
theorem err6 : err H5 ⟨5, [118], [], []⟩ = 11 := by decide
theorem err7 : err H5 ⟨6, [97], [117], []⟩ = 9 := by decide
theorem err8 : err H5 ⟨7, [97], [97], []⟩ = 1 := by decide
theorem step_err {st : St} {e : Ed} (h : err st e ≠ 0) : step st e = st := by unfold step; rw [if_neg h]

theorem step6 : step H5 ⟨5, [118], [], []⟩ = H5 := step_err (by rw [err6]; decide)
theorem step7 : step H5 ⟨6, [97], [117], []⟩ = H5 := step_err (by rw [err7]; decide)
theorem step8 : step H5 ⟨7, [97], [97], []⟩ = H5 := step_err (by rw [err8]; decide)

theorem step_none {st : St} {e : Ed} {k : Key} (h : st k = none) (h1 : k ≠ e.main) (h2 : k ≠ e.other) : step st e k = none := by
  unfold step
  split
  · have : ment st e k = none := by
      unfold ment
      split
      · unfold mentionS; rw [if_neg h2, if_neg h1]; exact h
      · unfold mentionS; rw [if_neg h1]; exact h
    show (ment st e k).map (upd e) = none
    rw [this]; rfl
  · exact h

theorem H2_none {k : Key} (hw : k ≠ [119]) (hv : k ≠ [118]) (hu : k ≠ [117]) : H2 k = none :=
  step_none (step_none rfl (by simpa [Ed.main] using hw) (by simpa using hv)) (by simpa [Ed.main] using hv) (by simpa using hu)
theorem H5_none {k : Key} (hw : k ≠ [119]) (hv : k ≠ [118]) (hu : k ≠ [117]) (h0 : k ≠ []) : H5 k = none :=
  step_none (step_none (step_none (H2_none hw hv hu) (by simpa [Ed.main] using hw) (by simpa using h0)) (by simpa [Ed.main] using hv) (by simpa using hu)) (by simpa [Ed.main] using hv) (by simpa using h0)

theorem now2 (k : Key) : ofS H2 [119] k = true ↔ k ∈ [[117], [118], [119]] := by
  have h : ofS H2 [119] = fun k => ((k == [119]) || k == [118]) || k == [117] := rfl
  rw [h]
  simp only [Bool.or_eq_true, beq_iff_eq, List.mem_cons, List.not_mem_nil, or_false]
  constructor
  · rintro ((h | h) | h) <;> simp [h]
  · rintro (h | h | h) <;> simp [h]
theorem now4 (k : Key) : ofS H4 [119] k = true ↔ k ∈ [[118]] := by
  by_cases h1 : k = [119]
  · subst h1; decide
  by_cases h2 : k = [118]
  · subst h2; decide
  by_cases h3 : k = [117]
  · subst h3; decide
  have h : ofS H4 [119] = fun k => ((((k == [119]) || k == [118]) || k == [117]) && !(k == [119])) && !(k == [117]) || k == [118] := rfl
  rw [h]
  simp [h1, h2, h3]
theorem gone5 (k : Key) : ofS H5 [119] k = false := by
  by_cases h1 : k = [119]
  · subst h1; decide
  by_cases h2 : k = [118]
  · subst h2; decide
  by_cases h3 : k = [117]
  · subst h3; decide
  have h : ofS H5 [119] = fun k => (((((k == [119]) || k == [118]) || k == [117]) && !(k == [119])) && !(k == [117]) || k == [118]) && !(k == [118]) := rfl
  rw [h]
  simp [h1, h2, h3]
theorem then2 (k : Key) : ofS H2 k [117] = true ↔ k ∈ [[117], [118], [119]] := by
  by_cases h1 : k = [119]
  · subst h1; decide
  by_cases h2 : k = [118]
  · subst h2; decide
  by_cases h3 : k = [117]
  · subst h3; decide
  have h : ofS H2 k [117] = false := by unfold ofS; rw [H2_none h1 h2 h3]; simpa using Ne.symm h3
  rw [h]
  simp [h1, h2, h3]
theorem then4 (k : Key) : ofS H4 k [118] = true ↔ k ∈ [[117], [118], [119]] := by
  by_cases h1 : k = [119]
  · subst h1; decide
  by_cases h2 : k = [118]
  · subst h2; decide
  by_cases h3 : k = [117]
  · subst h3; decide
  by_cases h4 : k = []
  · subst h4; decide
  have hn : H4 k = none := step_none (step_none (H2_none h1 h2 h3) (by simpa [Ed.main] using h1) (by simpa using h4)) (by simpa [Ed.main] using h2) (by simpa using h3)
  have h : ofS H4 k [118] = false := by unfold ofS; rw [hn]; simpa using Ne.symm h2
  rw [h]
  simp [h1, h2, h3]
theorem now5 (k : Key) : ofS H5 [110, 101, 119] k = true ↔ k ∈ [[110, 101, 119]] := by
  have hn : H5 [110, 101, 119] = none := H5_none (by decide) (by decide) (by decide) (by decide)
  unfold ofS
  rw [hn]
  simp

theorem rise3 : ([[117], [118], [119]] : List Key).Pairwise (· < ·) := by decide
theorem rise1 (k : Key) : ([k] : List Key).Pairwise (· < ·) := by simp

end Go.Proofs.Ytkbjfmlfmmmknaa
