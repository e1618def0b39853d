/- The laws of what edits do, in plain Lean: no program, no memory. -/
import Derived.Test.YtkbjfmlfmmmknaaPure
namespace Go.Proofs.Ytkbjfmlfmmmknaa

/-- What an edit does to a set, in one form: some Id goes, another comes where a third is. -/
theorem upd_nf (e : Ed) (S : Key → Bool) (k : Key) : upd e S k =
    if e.op = 5 then S k && !(k == e.id)
    else if e.op = 6 then S k || (k == e.other && S e.id)
    else if e.op = 7 then (S k && !(k == e.other)) || (k == e.id && S e.other)
    else S k := by
  unfold upd
  by_cases h5 : e.op = 5
  · rw [if_pos h5, if_pos h5]
  by_cases h6 : e.op = 6
  · rw [if_neg h5, if_neg h5, if_pos h6]
    cases hS : S e.id <;> simp [h6]
  by_cases h7 : e.op = 7
  · rw [if_neg h5, if_neg h5, if_neg h6, if_neg (fun h => h6 h.1), if_pos h7]
    cases hS : S e.other
    · rw [if_neg (by simp)]
      simp only [Bool.and_false, Bool.or_false]
      by_cases hk : k = e.other
      · rw [hk, hS]; rfl
      · simp [hk]
    · rw [if_pos ⟨h7, rfl⟩]; simp
  · rw [if_neg h5, if_neg h5, if_neg h6, if_neg (fun h => h6 h.1), if_neg h7, if_neg (fun h => h7 h.1)]
theorem upd5 {e : Ed} (h5 : e.op = 5) (S : Key → Bool) (k : Key) : upd e S k = (S k && !(k == e.id)) := by rw [upd_nf, if_pos h5]
theorem upd6 {e : Ed} (h6 : e.op = 6) (S : Key → Bool) (k : Key) : upd e S k = (S k || (k == e.other && S e.id)) := by rw [upd_nf, if_neg (by omega), if_pos h6]
theorem upd7 {e : Ed} (h7 : e.op = 7) (S : Key → Bool) (k : Key) : upd e S k = ((S k && !(k == e.other)) || (k == e.id && S e.other)) := by rw [upd_nf, if_neg (by omega), if_neg (by omega), if_pos h7]
theorem updN {e : Ed} (h5 : e.op ≠ 5) (h6 : e.op ≠ 6) (h7 : e.op ≠ 7) (S : Key → Bool) : upd e S = S := by funext k; rw [upd_nf, if_neg h5, if_neg h6, if_neg h7]

section
variable {st : St} {e : Ed}

theorem err_zero (h : err st e = 0) : 1 ≤ e.op ∧ e.op ≤ 7 ∧ (e.op = 6 ∨ e.op = 7 → e.id ≠ e.other) ∧ (e.op ≠ 1 → ofS st e.id e.id = true) ∧ (e.op = 7 → ofS st e.other e.other = true) ∧ (e.op = 1 → st e.obj = none) ∧ (e.op = 6 → st e.other = none) := by
  unfold err at h
  by_cases c1 : (e.op < 1 ∨ 7 < e.op) ∨ (e.two = true ∧ e.id = e.other)
  · rw [if_pos c1] at h; cases h
  rw [if_neg c1] at h
  by_cases c2 : (e.op ≠ 1 ∧ ofS st e.id e.id = false) ∨ (e.op = 7 ∧ ofS st e.other e.other = false)
  · rw [if_pos c2] at h; cases h
  rw [if_neg c2] at h
  by_cases c3 : (st e.fresh).isSome = true ∧ (e.op = 1 ∨ e.op = 6)
  · rw [if_pos c3] at h; cases h
  refine ⟨by omega, by omega, fun h67 he => c1 (.inr ⟨?_, he⟩), fun h1 => ?_, fun h7 => ?_, fun h1 => ?_, fun h6 => ?_⟩
  · unfold Ed.two; rcases h67 with h | h <;> simp [h]
  · cases hh : ofS st e.id e.id with
    | true => rfl
    | false => exact absurd (.inl ⟨h1, hh⟩) c2
  · cases hh : ofS st e.other e.other with
    | true => rfl
    | false => exact absurd (.inr ⟨h7, hh⟩) c2
  · cases hh : st e.obj with
    | none => rfl
    | some S => exact absurd ⟨by unfold Ed.fresh; rw [if_pos h1, hh]; rfl, .inl h1⟩ c3
  · cases hh : st e.other with
    | none => rfl
    | some S => exact absurd ⟨by unfold Ed.fresh; rw [if_neg (by omega), hh]; rfl, .inr h6⟩ c3

theorem err_of (h1 : 1 ≤ e.op) (h2 : e.op ≤ 7) (h3 : e.op = 6 ∨ e.op = 7 → e.id ≠ e.other) (h4 : e.op ≠ 1 → ofS st e.id e.id = true) (h5 : e.op = 7 → ofS st e.other e.other = true) (h6 : e.op = 1 → st e.obj = none) (h7 : e.op = 6 → st e.other = none) : err st e = 0 := by
  unfold err
  rw [if_neg, if_neg, if_neg]
  · rintro ⟨hs, h | h⟩
    · unfold Ed.fresh at hs; rw [if_pos h, h6 h] at hs; cases hs
    · unfold Ed.fresh at hs; rw [if_neg (by omega), h7 h] at hs; cases hs
  · rintro (⟨h, hf⟩ | ⟨h, hf⟩)
    · rw [h4 h] at hf; cases hf
    · rw [h5 h] at hf; cases hf
  · rintro ((h | h) | ⟨ht, h⟩)
    · omega
    · omega
    · unfold Ed.two at ht
      refine h3 ?_ h
      simpa using ht

theorem mentionS_ofS (st : St) (k : Key) : ofS (mentionS st k) = ofS st := by
  funext j
  unfold mentionS
  by_cases h : j = k
  · subst h; simp [ofS]
  · simp [ofS, h]
theorem mentionS_some (st : St) (k j : Key) : (mentionS st k j).isSome = true ↔ (st j).isSome = true ∨ j = k := by
  unfold mentionS
  by_cases h : j = k <;> simp [h]
theorem ment_ofS (st : St) (e : Ed) : ofS (ment st e) = ofS st := by
  unfold ment
  split
  · rw [mentionS_ofS, mentionS_ofS]
  · rw [mentionS_ofS]
theorem ment_some (st : St) (e : Ed) (j : Key) : (ment st e j).isSome = true ↔ (st j).isSome = true ∨ j = e.main ∨ (e.two = true ∧ j = e.other) := by
  unfold ment
  split
  · rename_i h
    rw [mentionS_some, mentionS_some, or_assoc]
    simp [h]
  · rename_i h
    rw [mentionS_some]
    simp [h]

/-- The Ids that are mentioned behind an edit that was followed. -/
theorem step_some (h : err st e = 0) (j : Key) : (step st e j).isSome = true ↔ (st j).isSome = true ∨ j = e.main ∨ (e.two = true ∧ j = e.other) := by
  unfold step
  rw [if_pos h, Option.isSome_map, ment_some]

/-- WHAT BECAME OF EACH ID, behind an edit that was followed. -/
theorem ofS_step (h : err st e = 0) (j : Key) : ofS (step st e) j = upd e (ofS st j) := by
  have hm : ofS (ment st e) j = ofS st j := by rw [ment_ofS]
  unfold step
  rw [if_pos h]
  cases hj : ment st e j with
  | some S =>
    have e1 : ofS st j = S := by rw [← hm]; unfold ofS; rw [hj]
    rw [e1]
    unfold ofS
    simp [hj]
  | none =>
    have e1 : ofS st j = fun k => k == j := by rw [← hm]; unfold ofS; rw [hj]
    have hn : ¬ ((st j).isSome = true ∨ j = e.main ∨ (e.two = true ∧ j = e.other)) := by
      rw [← ment_some, hj]; simp
    rw [e1]
    unfold ofS
    simp only [hj, Option.map_none]
    funext k
    by_cases h5 : e.op = 5
    · have : j ≠ e.id := fun he => hn (.inr (.inl (by unfold Ed.main; rw [if_neg (by omega)]; exact he)))
      rw [upd5 h5]
      by_cases hk : k = j
      · subst hk; simp [this]
      · simp [hk]
    by_cases h6 : e.op = 6
    · have : j ≠ e.id := fun he => hn (.inr (.inl (by unfold Ed.main; rw [if_neg (by omega)]; exact he)))
      rw [upd6 h6]
      simp [Ne.symm this]
    by_cases h7 : e.op = 7
    · have ho : j ≠ e.other := fun he => hn (.inr (.inr ⟨by unfold Ed.two; simp [h7], he⟩))
      rw [upd7 h7]
      have ho' : (e.other == j) = false := beq_eq_false_iff_ne.2 (Ne.symm ho)
      rw [ho']
      by_cases hk : k = j
      · subst hk; simp [ho]
      · simp [hk]
    · rw [updN h5 h6 h7]
theorem step_same (h : err st e ≠ 0) : step st e = st := by unfold step; rw [if_neg h]

/-! ### what always holds -/
/-- A part is a part of itself; the parts of a mentioned Id are mentioned. -/
structure Inv (st : St) : Prop where
  self : ∀ j k, ofS st j k = true → ofS st k k = true
  known : ∀ j k, ofS st j k = true → j = k ∨ (st k).isSome = true

theorem inv_start : Inv (fun _ => none) := by
  refine ⟨fun j k h => by simp [ofS], fun j k h => .inl ?_⟩
  have : k = j := by simpa [ofS] using h
  exact this.symm

theorem Inv.step (hi : Inv st) (e : Ed) : Inv (step st e) := by
  by_cases h : err st e = 0
  · obtain ⟨z1, z2, z3, z4, z5, z6, z7⟩ := err_zero h
    refine ⟨fun j k hk => ?_, fun j k hk => ?_⟩
    · rw [ofS_step h] at hk ⊢
      by_cases h5 : e.op = 5
      · rw [upd5 h5] at hk ⊢
        simp only [Bool.and_eq_true, Bool.not_eq_true', beq_eq_false_iff_ne] at hk ⊢
        exact ⟨hi.self j k hk.1, hk.2⟩
      by_cases h6 : e.op = 6
      · rw [upd6 h6] at hk ⊢
        simp only [Bool.or_eq_true, Bool.and_eq_true, beq_iff_eq] at hk ⊢
        rcases hk with hk | ⟨rfl, _⟩
        · exact .inl (hi.self j k hk)
        · refine .inl ?_
          unfold ofS; rw [z7 h6]; simp
      by_cases h7 : e.op = 7
      · rw [upd7 h7] at hk ⊢
        simp only [Bool.or_eq_true, Bool.and_eq_true, Bool.not_eq_true', beq_eq_false_iff_ne, beq_iff_eq] at hk ⊢
        rcases hk with ⟨hk, hne⟩ | ⟨rfl, _⟩
        · exact .inl ⟨hi.self j k hk, hne⟩
        · exact .inl ⟨z4 (by omega), z3 (.inr h7)⟩
      · rw [updN h5 h6 h7] at hk ⊢
        exact hi.self j k hk
    · rw [step_some h]
      rw [ofS_step h] at hk
      by_cases h5 : e.op = 5
      · rw [upd5 h5] at hk
        simp only [Bool.and_eq_true] at hk
        exact (hi.known j k hk.1).imp id .inl
      by_cases h6 : e.op = 6
      · rw [upd6 h6] at hk
        simp only [Bool.or_eq_true, Bool.and_eq_true, beq_iff_eq] at hk
        rcases hk with hk | ⟨rfl, _⟩
        · exact (hi.known j k hk).imp id .inl
        · exact .inr (.inr (.inr ⟨by unfold Ed.two; simp [h6], rfl⟩))
      by_cases h7 : e.op = 7
      · rw [upd7 h7] at hk
        simp only [Bool.or_eq_true, Bool.and_eq_true, beq_iff_eq] at hk
        rcases hk with ⟨hk, _⟩ | ⟨rfl, _⟩
        · exact (hi.known j k hk).imp id .inl
        · exact .inr (.inr (.inl (by unfold Ed.main; rw [if_neg (by omega)])))
      · rw [updN h5 h6 h7] at hk
        exact (hi.known j k hk).imp id .inl
  · rw [step_same h]; exact hi

/-! ### split and joined -/
theorem joined_law (hi : Inv st) {a b : Key} {x : Key} (h : err st ⟨6, a, b, x⟩ = 0) :
    err (step st ⟨6, a, b, x⟩) ⟨7, a, b, x⟩ = 0 ∧
    (∀ id, id ≠ b → ofS (step st ⟨6, a, b, x⟩) id b = ofS st id a) ∧
    (∀ id, id ≠ b → ofS (step (step st ⟨6, a, b, x⟩) ⟨7, a, b, x⟩) id = ofS st id) ∧
    (∀ k, ofS (step (step st ⟨6, a, b, x⟩) ⟨7, a, b, x⟩) b k = (k == a)) := by
  obtain ⟨_, _, z3, z4, _, _, z7⟩ := err_zero h
  have hab : a ≠ b := z3 (.inl rfl)
  have haa : ofS st a a = true := z4 (show (6 : Int) ≠ 1 by decide)
  have hb : st b = none := z7 rfl
  have hnb : ∀ id, id ≠ b → ofS st id b = false := fun id hne => by
    cases hh : ofS st id b with
    | false => rfl
    | true =>
      rcases hi.known id b hh with h1 | h1
      · exact absurd h1 hne
      · rw [hb] at h1; cases h1
  have hs1 : ∀ j k, ofS (step st ⟨6, a, b, x⟩) j k = (ofS st j k || (k == b && ofS st j a)) := fun j k => by
    rw [ofS_step h, upd_nf]; simp
  have he : err (step st ⟨6, a, b, x⟩) ⟨7, a, b, x⟩ = 0 := by
    refine err_of (by show (1 : Int) ≤ 7; decide) (by show (7 : Int) ≤ 7; decide) (fun _ => hab) (fun _ => ?_) (fun _ => ?_) (fun h => ?_) (fun h => ?_)
    · show ofS _ a a = true
      rw [hs1, haa]; rfl
    · show ofS _ b b = true
      rw [hs1]; simp [ofS, hb]
    · exact absurd (show (7 : Int) = 1 from h) (by decide)
    · exact absurd (show (7 : Int) = 6 from h) (by decide)
  have hs2 : ∀ j k, ofS (step (step st ⟨6, a, b, x⟩) ⟨7, a, b, x⟩) j k = (((ofS st j k || (k == b && ofS st j a)) && !(k == b)) || (k == a && (ofS st j b || ofS st j a))) := fun j k => by
    rw [ofS_step he, upd_nf]
    simp [hs1]
  refine ⟨he, fun id hne => ?_, fun id hne => ?_, fun k => ?_⟩
  · rw [hs1, hnb id hne]; simp
  · funext k
    rw [hs2, hnb id hne]
    by_cases hk : k = b
    · subst hk; simp [hnb id hne, Ne.symm hab]
    · by_cases hka : k = a
      · subst hka; simp [hk]
      · have e1 : (k == a) = false := beq_eq_false_iff_ne.2 hka
        have e2 : (k == b) = false := beq_eq_false_iff_ne.2 hk
        rw [e1, e2]; simp
  · rw [hs2]
    have h1 : ofS st b k = (k == b) := by simp [ofS, hb]
    have h2 : ofS st b b = true := by simp [ofS, hb]
    rw [h1, h2]
    by_cases hk : k = b
    · subst hk; simp
    · simp [hk]

/-! ### dropped -/
theorem drop_law {a x y : Key} (h : err st ⟨5, a, x, y⟩ = 0) (j k : Key) : ofS (step st ⟨5, a, x, y⟩) j k = (ofS st j k && !(k == a)) := by
  rw [ofS_step h, upd_nf]; simp
theorem drop_ok {a x y : Key} (h : ofS st a a = true) : err st ⟨5, a, x, y⟩ = 0 :=
  err_of (by show (1 : Int) ≤ 5; decide) (by show (5 : Int) ≤ 7; decide) (fun h => absurd (show (5 : Int) = 6 ∨ (5 : Int) = 7 from h) (by decide)) (fun _ => h) (fun h => absurd (show (5 : Int) = 7 from h) (by decide)) (fun h => absurd (show (5 : Int) = 1 from h) (by decide)) (fun h => absurd (show (5 : Int) = 6 from h) (by decide))

/-! ### refused -/
theorem refuses_law (h : err st e ≠ 0 ∨ e.op < 5) : ofS (step st e) = ofS st := by
  by_cases h0 : err st e = 0
  · have h5 : e.op < 5 := h.resolve_left (fun h => h h0)
    funext j k
    rw [ofS_step h0, upd_nf, if_neg (by omega), if_neg (by omega), if_neg (by omega)]
  · rw [step_same h0]

/-! ### on and on -/
/-- t is what became of Ids by the further edits alone. -/
structure Onto (s0 s t : St) : Prop where
  both : ∀ j k, ofS s j k = true ↔ ∃ p, ofS s0 j p = true ∧ ofS t p k = true
  less : ∀ j, (t j).isSome = true → (s j).isSome = true
  inv : Inv t

theorem Onto.start (s0 : St) : Onto s0 s0 (fun _ => none) := by
  refine ⟨fun j k => ⟨fun h => ⟨k, h, by simp [ofS]⟩, ?_⟩, (fun j h => by cases h), inv_start⟩
  rintro ⟨p, hp, hk⟩
  have : k = p := by simpa [ofS] using hk
  rw [this]; exact hp

theorem Onto.ok {s0 s t : St} (h : Onto s0 s t) (he : err s e = 0) : err t e = 0 := by
  obtain ⟨z1, z2, z3, z4, z5, z6, z7⟩ := err_zero he
  have hself : ∀ k, ofS s k k = true → ofS t k k = true := fun k hk => by
    obtain ⟨p, _, hp⟩ := (h.both k k).1 hk
    exact h.inv.self p k hp
  have hnone : ∀ j, s j = none → t j = none := fun j hj => by
    cases hh : t j with
    | none => rfl
    | some S =>
      have := h.less j (by rw [hh]; rfl)
      rw [hj] at this; cases this
  exact err_of z1 z2 z3 (fun h1 => hself _ (z4 h1)) (fun h7 => hself _ (z5 h7)) (fun h1 => hnone _ (z6 h1)) (fun h6 => hnone _ (z7 h6))

theorem Onto.step {s0 s t : St} (h : Onto s0 s t) (he : err s e = 0) : Onto s0 (step s e) (step t e) := by
  have ht := h.ok he
  refine ⟨fun j k => ?_, fun j hj => ?_, h.inv.step e⟩
  · rw [ofS_step he]
    simp only [ofS_step ht]
    by_cases h5 : e.op = 5
    · simp only [upd5 h5, Bool.and_eq_true, h.both j k]
      constructor
      · rintro ⟨⟨p, h1, h2⟩, h3⟩; exact ⟨p, h1, h2, h3⟩
      · rintro ⟨p, h1, h2, h3⟩; exact ⟨⟨p, h1, h2⟩, h3⟩
    by_cases h6 : e.op = 6
    · simp only [upd6 h6, Bool.or_eq_true, Bool.and_eq_true, h.both j k, h.both j e.id]
      constructor
      · rintro (⟨p, h1, h2⟩ | ⟨h3, p, h1, h2⟩)
        · exact ⟨p, h1, .inl h2⟩
        · exact ⟨p, h1, .inr ⟨h3, h2⟩⟩
      · rintro ⟨p, h1, h2 | ⟨h3, h2⟩⟩
        · exact .inl ⟨p, h1, h2⟩
        · exact .inr ⟨h3, p, h1, h2⟩
    by_cases h7 : e.op = 7
    · simp only [upd7 h7, Bool.or_eq_true, Bool.and_eq_true, h.both j k, h.both j e.other]
      constructor
      · rintro (⟨⟨p, h1, h2⟩, h3⟩ | ⟨h3, p, h1, h2⟩)
        · exact ⟨p, h1, .inl ⟨h2, h3⟩⟩
        · exact ⟨p, h1, .inr ⟨h3, h2⟩⟩
      · rintro ⟨p, h1, ⟨h2, h3⟩ | ⟨h3, h2⟩⟩
        · exact .inl ⟨⟨p, h1, h2⟩, h3⟩
        · exact .inr ⟨h3, p, h1, h2⟩
    · rw [updN h5 h6 h7]
      simp only [updN h5 h6 h7]
      exact h.both j k
  · rw [step_some ht] at hj
    rw [step_some he]
    exact hj.imp (h.less j) id

/-! ### in either order -/
/-- An Id that an edit uses. -/
def Uses (e : Ed) (k : Key) : Prop := (e.op = 1 ∧ k = e.obj) ∨ (e.op ≠ 1 ∧ k = e.id) ∨ ((e.op = 6 ∨ e.op = 7) ∧ k = e.other)

theorem step_self {i : Key} (h : ∀ k, Uses e k → k ≠ i) : ofS (step st e) i i = ofS st i i := by
  by_cases h0 : err st e = 0
  · rw [ofS_step h0]
    by_cases h5 : e.op = 5
    · have := h e.id (.inr (.inl ⟨by omega, rfl⟩))
      rw [upd5 h5]; simp [Ne.symm this]
    by_cases h6 : e.op = 6
    · have := h e.other (.inr (.inr ⟨.inl h6, rfl⟩))
      rw [upd6 h6]; simp [Ne.symm this]
    by_cases h7 : e.op = 7
    · have h1 := h e.other (.inr (.inr ⟨.inr h7, rfl⟩))
      have h2 := h e.id (.inr (.inl ⟨by omega, rfl⟩))
      rw [upd7 h7, (beq_eq_false_iff_ne.2 (Ne.symm h1) : (i == e.other) = false), (beq_eq_false_iff_ne.2 (Ne.symm h2) : (i == e.id) = false)]; simp
    · rw [updN h5 h6 h7]
  · rw [step_same h0]
theorem step_known {i : Key} (h : ∀ k, Uses e k → k ≠ i) : (step st e i).isSome = (st i).isSome := by
  by_cases h0 : err st e = 0
  · rw [Bool.eq_iff_iff, step_some h0]
    constructor
    · rintro (h1 | h1 | ⟨h1, h2⟩)
      · exact h1
      · exfalso
        by_cases o1 : e.op = 1
        · exact h e.obj (.inl ⟨o1, rfl⟩) (by rw [h1]; unfold Ed.main; rw [if_pos o1])
        · exact h e.id (.inr (.inl ⟨o1, rfl⟩)) (by rw [h1]; unfold Ed.main; rw [if_neg o1])
      · exfalso
        unfold Ed.two at h1
        exact h e.other (.inr (.inr ⟨by simpa using h1, rfl⟩)) h2.symm
    · exact .inl
  · rw [step_same h0]

theorem err_step {a b : Ed} (h : ∀ k, Uses a k → ¬ Uses b k) : err (step st b) a = err st a := by
  have hs : ∀ i, Uses a i → ofS (step st b) i i = ofS st i i := fun i hi => step_self (fun k hk e => h i hi (e ▸ hk))
  have hk : ∀ i, Uses a i → (step st b i).isSome = (st i).isSome := fun i hi => step_known (fun k hk e => h i hi (e ▸ hk))
  unfold err
  by_cases c1 : (a.op < 1 ∨ 7 < a.op) ∨ (a.two = true ∧ a.id = a.other)
  · rw [if_pos c1, if_pos c1]
  rw [if_neg c1, if_neg c1]
  have e2 : ((a.op ≠ 1 ∧ ofS (step st b) a.id a.id = false) ∨ (a.op = 7 ∧ ofS (step st b) a.other a.other = false)) ↔ ((a.op ≠ 1 ∧ ofS st a.id a.id = false) ∨ (a.op = 7 ∧ ofS st a.other a.other = false)) := by
    have i1 : a.op ≠ 1 → ofS (step st b) a.id a.id = ofS st a.id a.id := fun h1 => hs _ (.inr (.inl ⟨h1, rfl⟩))
    have i2 : a.op = 7 → ofS (step st b) a.other a.other = ofS st a.other a.other := fun h1 => hs _ (.inr (.inr ⟨.inr h1, rfl⟩))
    constructor
    · rintro (⟨h1, h2⟩ | ⟨h1, h2⟩)
      · exact .inl ⟨h1, by rw [← i1 h1]; exact h2⟩
      · exact .inr ⟨h1, by rw [← i2 h1]; exact h2⟩
    · rintro (⟨h1, h2⟩ | ⟨h1, h2⟩)
      · exact .inl ⟨h1, by rw [i1 h1]; exact h2⟩
      · exact .inr ⟨h1, by rw [i2 h1]; exact h2⟩
  have e3 : ((step st b a.fresh).isSome = true ∧ (a.op = 1 ∨ a.op = 6)) ↔ ((st a.fresh).isSome = true ∧ (a.op = 1 ∨ a.op = 6)) := by
    have i3 : (a.op = 1 ∨ a.op = 6) → (step st b a.fresh).isSome = (st a.fresh).isSome := by
      rintro (h1 | h1)
      · exact hk _ (.inl ⟨h1, by unfold Ed.fresh; rw [if_pos h1]⟩)
      · exact hk _ (.inr (.inr ⟨.inl h1, by unfold Ed.fresh; rw [if_neg (by omega)]⟩))
    constructor
    · rintro ⟨h1, h2⟩; exact ⟨by rw [← i3 h2]; exact h1, h2⟩
    · rintro ⟨h1, h2⟩; exact ⟨by rw [i3 h2]; exact h1, h2⟩
  simp only [e2, e3]

theorem upd_comm {a b : Ed} (h : ∀ k, Uses a k → ¬ Uses b k) (S : Key → Bool) : upd b (upd a S) = upd a (upd b S) := by
  by_cases na : a.op ≠ 5 ∧ a.op ≠ 6 ∧ a.op ≠ 7
  · simp only [updN na.1 na.2.1 na.2.2]
  by_cases nb : b.op ≠ 5 ∧ b.op ≠ 6 ∧ b.op ≠ 7
  · simp only [updN nb.1 nb.2.1 nb.2.2]
  have ha : a.op ≠ 1 := by omega
  have hb : b.op ≠ 1 := by omega
  have ia : ∀ k, k = a.id → Uses a k := fun k hk => .inr (.inl ⟨ha, hk⟩)
  have ib : ∀ k, k = b.id → Uses b k := fun k hk => .inr (.inl ⟨hb, hk⟩)
  have oa : (a.op = 6 ∨ a.op = 7) → ∀ k, k = a.other → Uses a k := fun h k hk => .inr (.inr ⟨h, hk⟩)
  have ob : (b.op = 6 ∨ b.op = 7) → ∀ k, k = b.other → Uses b k := fun h k hk => .inr (.inr ⟨h, hk⟩)
  have n1 : a.id ≠ b.id := fun e => h _ (ia _ rfl) (ib _ e)
  have n2 : (a.op = 6 ∨ a.op = 7) → a.other ≠ b.id := fun h1 e => h _ (oa h1 _ rfl) (ib _ e)
  have n3 : (b.op = 6 ∨ b.op = 7) → a.id ≠ b.other := fun h1 e => h _ (ia _ rfl) (ob h1 _ e)
  have n4 : (a.op = 6 ∨ a.op = 7) → (b.op = 6 ∨ b.op = 7) → a.other ≠ b.other := fun h1 h2 e => h _ (oa h1 _ rfl) (ob h2 _ e)
  clear h ia ib oa ob
  obtain ⟨p, i, o, _⟩ := a
  obtain ⟨q, j, u, _⟩ := b
  dsimp only at *
  have d : ∀ {p q : Key}, p ≠ q → (p == q) = false := fun h => beq_eq_false_iff_ne.2 h
  funext k
  have ex : ∀ {p q : Key}, p ≠ q → ((k == p) && (k == q)) = false := fun {p q} h => by
    by_cases hk : k = p
    · subst hk; simp [h]
    · simp [hk]
  have x1 := ex n1
  have d1 := d n1
  have d1' := d n1.symm
  have hp : p = 5 ∨ p = 6 ∨ p = 7 := by omega
  have hq : q = 5 ∨ q = 6 ∨ q = 7 := by omega
  have x2 : p = 6 ∨ p = 7 → ((k == o) && (k == j)) = false ∧ (o == j) = false ∧ (j == o) = false := fun h5 => by
    have := n2 h5; exact ⟨ex this, d this, d this.symm⟩
  have x3 : q = 6 ∨ q = 7 → ((k == i) && (k == u)) = false ∧ (i == u) = false ∧ (u == i) = false := fun h5 => by
    have := n3 h5; exact ⟨ex this, d this, d this.symm⟩
  have x4 : p = 6 ∨ p = 7 → q = 6 ∨ q = 7 → ((k == o) && (k == u)) = false ∧ (o == u) = false ∧ (u == o) = false := fun h5 h6 => by
    have := n4 h5 h6; exact ⟨ex this, d this, d this.symm⟩
  clear ex d n1 n2 n3 n4 na nb ha hb
  rcases hp with rfl | rfl | rfl <;> rcases hq with rfl | rfl | rfl <;>
    (first | obtain ⟨y1, y2, y3⟩ := x2 (.inl rfl) | obtain ⟨y1, y2, y3⟩ := x2 (.inr rfl) | skip) <;> (first | obtain ⟨z1, z2, z3⟩ := x3 (.inl rfl) | obtain ⟨z1, z2, z3⟩ := x3 (.inr rfl) | skip) <;> (first | obtain ⟨u1, u2, u3⟩ := x4 (.inl rfl) (.inl rfl) | obtain ⟨u1, u2, u3⟩ := x4 (.inl rfl) (.inr rfl) | obtain ⟨u1, u2, u3⟩ := x4 (.inr rfl) (.inl rfl) | obtain ⟨u1, u2, u3⟩ := x4 (.inr rfl) (.inr rfl) | skip) <;> clear x2 x3 x4 <;>
    simp only [upd_nf, if_true, if_false, Int.reduceEq, Bool.false_and, Bool.or_false, Bool.not_false, Bool.and_true, *] <;>
    generalize (k == i) = a1 at * <;> generalize (k == j) = a2 at * <;> generalize (k == o) = a3 at * <;> generalize (k == u) = a4 at * <;>
    generalize S k = s1 at * <;> generalize S i = s2 at * <;> generalize S j = s3 at * <;> generalize S o = s4 at * <;> generalize S u = s5 at * <;>
    clear d1 d1' <;> (try clear y2 y3) <;> (try clear z2 z3) <;> (try clear u2 u3) <;>
    cases a1 <;> cases a2 <;> first | cases x1; done | skip
  all_goals (cases a3 <;> cases a4 <;> cases s1 <;> cases s2 <;> cases s3 <;> cases s4 <;> cases s5 <;> first | rfl | contradiction)

end
end Go.Proofs.Ytkbjfmlfmmmknaa
