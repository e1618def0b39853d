/- The pairs of segments that meet, in order; and that a sweep finds them: plain Lean, no program, no memory. -/
import Derived.Test.YtdpbihbcggpobaaGeo
namespace Go.Proofs.Ytdpbihbcggpobaa

/-- A meeting: two indices and a kind. -/
abbrev Mt := Nat × Nat × Int

/-- By the first index, then by the second one. -/
def Mlt (a b : Mt) : Prop := a.1 < b.1 ∨ (a.1 = b.1 ∧ a.2.1 < b.2.1)
theorem Mlt.irrefl {a : Mt} : ¬ Mlt a a := by unfold Mlt; omega
theorem Mlt.trans {a b c : Mt} (h : Mlt a b) (k : Mlt b c) : Mlt a c := by unfold Mlt at *; omega

/-- Two strictly rising lists of the same members are one. -/
theorem eq_of_mlt : ∀ {l₁ l₂ : List Mt}, l₁.Pairwise Mlt → l₂.Pairwise Mlt → (∀ k, k ∈ l₁ ↔ k ∈ l₂) → l₁ = l₂
  | [], [], _, _, _ => rfl
  | [], b :: s, _, _, h => by have := (h b).2 (by simp); simp at this
  | a :: r, [], _, _, h => by have := (h a).1 (by simp); simp at this
  | a :: r, b :: s, h1, h2, h => by
    obtain ⟨a1, a2⟩ := List.pairwise_cons.1 h1
    obtain ⟨b1, b2⟩ := List.pairwise_cons.1 h2
    have hab : a = b := by
      rcases List.mem_cons.1 ((h a).1 (by simp)) with e | ha
      · exact e
      · rcases List.mem_cons.1 ((h b).2 (by simp)) with e | hb
        · exact e.symm
        · exact absurd ((a1 b hb).trans (b1 a ha)) Mlt.irrefl
    subst hab
    rw [eq_of_mlt a2 b2 (fun p => ⟨fun hp => by
      rcases List.mem_cons.1 ((h p).1 (by simp [hp])) with e | hp'
      · have := a1 p hp
        rw [e] at this
        exact absurd this Mlt.irrefl
      · exact hp', fun hp => by
      rcases List.mem_cons.1 ((h p).2 (by simp [hp])) with e | hp'
      · have := b1 p hp
        rw [e] at this
        exact absurd this Mlt.irrefl
      · exact hp'⟩)]

section
variable (f : Nat → Nat → Int)
/-- The meeting of two indices, if there is one. -/
def one (i j : Nat) : List Mt := if f i j = 0 then [] else [(i, j, f i j)]
/-- The meetings of i with those from j on, below n. -/
def rowP (i j n : Nat) : List Mt := (List.range' j (n - j)).flatMap (one f i)
/-- All meetings of those below n, the first index below m. -/
def allP (m n : Nat) : List Mt := (List.range m).flatMap fun i => rowP f i (i + 1) n

theorem mem_one {i j : Nat} {m : Mt} : m ∈ one f i j ↔ m = (i, j, f i j) ∧ f i j ≠ 0 := by
  unfold one
  by_cases h : f i j = 0
  · simp [h]
  · simp [h]
theorem mem_rowP {i j n : Nat} {m : Mt} : m ∈ rowP f i j n ↔ m.1 = i ∧ j ≤ m.2.1 ∧ m.2.1 < n ∧ m.2.2 = f i m.2.1 ∧ m.2.2 ≠ 0 := by
  unfold rowP
  rw [List.mem_flatMap]
  constructor
  · rintro ⟨k, hk, hm⟩
    obtain ⟨rfl, h2⟩ := (mem_one f).1 hm
    rw [List.mem_range'_1] at hk
    exact ⟨rfl, hk.1, by show k < n; omega, rfl, h2⟩
  · rintro ⟨h1, h2, h3, h4, h5⟩
    obtain ⟨a, b, c⟩ := m
    simp only at *
    subst h1
    refine ⟨b, by rw [List.mem_range'_1]; omega, (mem_one f).2 ⟨by rw [h4], by rw [← h4]; exact h5⟩⟩
theorem mem_allP {m n : Nat} {p : Mt} : p ∈ allP f m n ↔ p.1 < m ∧ p.1 < p.2.1 ∧ p.2.1 < n ∧ p.2.2 = f p.1 p.2.1 ∧ p.2.2 ≠ 0 := by
  unfold allP
  rw [List.mem_flatMap]
  constructor
  · rintro ⟨i, hi, hp⟩
    obtain ⟨h1, h2, h3, h4, h5⟩ := (mem_rowP f).1 hp
    rw [List.mem_range] at hi
    subst h1
    exact ⟨hi, h2, h3, h4, h5⟩
  · rintro ⟨h1, h2, h3, h4, h5⟩
    exact ⟨p.1, List.mem_range.2 h1, (mem_rowP f).2 ⟨rfl, h2, h3, h4, h5⟩⟩

theorem one_pair (i j : Nat) : (one f i j).Pairwise Mlt := by unfold one; split <;> simp
theorem pairwise_flatMap {α β : Type} {R : β → β → Prop} {g : α → List β} : ∀ {l : List α}, (∀ a ∈ l, (g a).Pairwise R) → l.Pairwise (fun a b => ∀ x ∈ g a, ∀ y ∈ g b, R x y) → (l.flatMap g).Pairwise R
  | [], _, _ => by simp
  | a :: l, h, k => by
    obtain ⟨k1, k2⟩ := List.pairwise_cons.1 k
    rw [List.flatMap_cons]
    refine List.pairwise_append.2 ⟨h a (by simp), pairwise_flatMap (fun b hb => h b (by simp [hb])) k2, fun x hx y hy => ?_⟩
    obtain ⟨b, hb, hyb⟩ := List.mem_flatMap.1 hy
    exact k1 b hb x hx y hyb
theorem rowP_pair (i j n : Nat) : (rowP f i j n).Pairwise Mlt := by
  unfold rowP
  refine pairwise_flatMap (fun a _ => one_pair f i a) ?_
  refine (List.pairwise_lt_range' (s := j) (n := n - j)).imp ?_
  intro a b hab x hx y hy
  obtain ⟨rfl, _⟩ := (mem_one f).1 hx
  obtain ⟨rfl, _⟩ := (mem_one f).1 hy
  exact .inr ⟨rfl, hab⟩
theorem allP_pair (m n : Nat) : (allP f m n).Pairwise Mlt := by
  unfold allP
  refine pairwise_flatMap (fun a _ => rowP_pair f a _ n) ?_
  refine (List.pairwise_lt_range (n := m)).imp ?_
  intro a b hab x hx y hy
  have h1 := ((mem_rowP f).1 hx).1
  have h2 := ((mem_rowP f).1 hy).1
  exact .inl (by rw [h1, h2]; exact hab)

theorem rowP_step {i j n : Nat} (h : j < n) : rowP f i j n = one f i j ++ rowP f i (j + 1) n := by
  unfold rowP
  have : n - j = (n - (j + 1)) + 1 := by omega
  rw [this, List.range'_succ, List.flatMap_cons]
theorem rowP_end {i j n : Nat} (h : n ≤ j) : rowP f i j n = [] := by
  unfold rowP
  have : n - j = 0 := by omega
  rw [this]; rfl
theorem allP_step {m n : Nat} : allP f (m + 1) n = allP f m n ++ rowP f m (m + 1) n := by
  unfold allP
  rw [List.range_succ, List.flatMap_append]
  simp
end

/-! ### the sweep -/
/-- An item: an index and a segment. -/
structure It where
  ix : Nat
  s : Sg
def It.xl (a : It) : Int := min a.s.1.1 a.s.2.1
def It.xh (a : It) : Int := max a.s.1.1 a.s.2.1
def It.yl (a : It) : Int := min a.s.1.2 a.s.2.2
def It.yh (a : It) : Int := max a.s.1.2 a.s.2.2

def keeps (a b : It) : Bool := !decide (b.xh < a.xl)
def near2 (a b : It) : Bool := decide (a.yl ≤ b.yh) && decide (b.yl ≤ a.yh)
def hitM (a b : It) : List Mt := if near2 a b = true ∧ meets a.s b.s ≠ 0 then [(min a.ix b.ix, max a.ix b.ix, meets a.s b.s)] else []

/-- The items that may still meet others, and the meetings found, behind some items. -/
def actP (l : List It) : Nat → List It
  | 0 => []
  | t + 1 => match l[t]? with
    | some a => (actP l t).filter (keeps a) ++ [a]
    | none => actP l t
def outP (l : List It) : Nat → List Mt
  | 0 => []
  | t + 1 => match l[t]? with
    | some a => outP l t ++ ((actP l t).filter (keeps a)).flatMap (hitM a)
    | none => outP l t

theorem actP_step {l : List It} {t : Nat} (h : t < l.length) : actP l (t + 1) = (actP l t).filter (keeps l[t]) ++ [l[t]] := by
  simp only [actP, List.getElem?_eq_getElem h]
theorem outP_step {l : List It} {t : Nat} (h : t < l.length) : outP l (t + 1) = outP l t ++ ((actP l t).filter (keeps l[t])).flatMap (hitM l[t]) := by
  simp only [outP, List.getElem?_eq_getElem h]
theorem actP_length (l : List It) : ∀ t, (actP l t).length ≤ t
  | 0 => Nat.le_refl _
  | t + 1 => by
    by_cases h : t < l.length
    · rw [actP_step h, List.length_append]
      have h1 := List.length_filter_le (keeps l[t]) (actP l t)
      have h2 := actP_length l t
      simp only [List.length_singleton]
      omega
    · have : actP l (t + 1) = actP l t := by simp only [actP, List.getElem?_eq_none (by omega : l.length ≤ t)]
      rw [this]
      have := actP_length l t
      omega

/-- What may still meet a later one: just those of before whose end is not behind it. -/
theorem actP_filter {l : List It} (hs : ∀ i j (hi : i < j) (hj : j < l.length), l[i].xl ≤ l[j].xl) : ∀ (t : Nat) (a : It), t ≤ l.length → (∀ i (_ : i < t) (h' : i < l.length), l[i].xl ≤ a.xl) → (actP l t).filter (keeps a) = (l.take t).filter (keeps a)
  | 0, a, _, _ => by simp [actP]
  | t + 1, a, ht, h => by
    have hlt : t < l.length := by omega
    rw [actP_step hlt, List.filter_append, List.filter_filter]
    have e1 : (actP l t).filter (fun x => keeps a x && keeps l[t] x) = (actP l t).filter (keeps a) := by
      refine List.filter_congr fun b _ => ?_
      have hle := h t (by omega) hlt
      unfold keeps
      by_cases hb : b.xh < a.xl
      · simp [hb]
      · have : ¬ b.xh < l[t].xl := by omega
        simp [hb, this]
    rw [e1, actP_filter hs t a (by omega) (fun i hi h' => h i (by omega) h'), List.take_add_one, List.getElem?_eq_getElem hlt, List.filter_append]
    rfl

theorem over_items {a b : It} (h : meets a.s b.s ≠ 0) : keeps a b = true ∧ near2 a b = true := by
  have ho := meets_over h
  unfold Over at ho
  unfold keeps near2 It.xh It.xl It.yl It.yh
  simp only [Bool.not_eq_true', decide_eq_false_iff_not, Bool.and_eq_true, decide_eq_true_iff]
  omega

/-- The meetings that are found: of each two, one before the other. -/
theorem mem_outP {l : List It} (hs : ∀ i j (hi : i < j) (hj : j < l.length), l[i].xl ≤ l[j].xl) (m : Mt) : ∀ (t : Nat), t ≤ l.length →
    (m ∈ outP l t ↔ ∃ i j, ∃ hij : i < j, ∃ _ : j < t, ∃ hl : j < l.length, meets l[j].s l[i].s ≠ 0 ∧ m = (min l[j].ix l[i].ix, max l[j].ix l[i].ix, meets l[j].s l[i].s))
  | 0, _ => by simp [outP]
  | t + 1, ht => by
    have hlt : t < l.length := by omega
    rw [outP_step hlt, List.mem_append, mem_outP hs m t (by omega), actP_filter hs t l[t] (by omega) (fun i hi h' => hs i t hi hlt)]
    constructor
    · rintro (⟨i, j, hij, hj, hl, h⟩ | h)
      · exact ⟨i, j, hij, by omega, hl, h⟩
      · obtain ⟨b, hb, hm⟩ := List.mem_flatMap.1 h
        obtain ⟨hb, _⟩ := List.mem_filter.1 hb
        obtain ⟨i, hi, rfl⟩ := List.getElem_of_mem hb
        have hi' : i < t := by rw [List.length_take] at hi; omega
        rw [List.getElem_take] at hm
        unfold hitM at hm
        split at hm
        · rename_i h2
          exact ⟨i, t, hi', by omega, hlt, h2.2, by simpa using hm⟩
        · cases hm
    · rintro ⟨i, j, hij, hj, hl, h1, h2⟩
      by_cases e : j = t
      · subst e
        refine .inr (List.mem_flatMap.2 ⟨l[i], List.mem_filter.2 ⟨?_, (over_items h1).1⟩, ?_⟩)
        · exact List.mem_take_iff_getElem.2 ⟨i, by omega, rfl⟩
        · unfold hitM
          rw [if_pos ⟨(over_items h1).2, h1⟩, h2]; simp
      · exact .inl ⟨i, j, hij, by omega, hl, h1, h2⟩

/-- How the segments of a list meet. -/
def kindOf (l : List Sg) (i j : Nat) : Int := meets (l.getD i ((0, 0), (0, 0))) (l.getD j ((0, 0), (0, 0)))

/-- The items of a list. -/
def items (l : List Sg) : List It := l.zipIdx.map fun p => ⟨p.2, p.1⟩
theorem items_length (l : List Sg) : (items l).length = l.length := by unfold items; simp
theorem items_at {l : List Sg} {i : Nat} (h : i < l.length) : (items l)[i]'(by rw [items_length]; exact h) = ⟨i, l[i]⟩ := by
  unfold items; simp

/-- In whatever order of the least X the items stand: the meetings found are those of all pairs. -/
theorem outP_pairs {l : List Sg} {its : List It} (hp : its.Perm (items l)) (hs : ∀ i j (hi : i < j) (hj : j < its.length), its[i].xl ≤ its[j].xl) (m : Mt) :
    m ∈ outP its its.length ↔ m ∈ allP (kindOf l) l.length l.length := by
  have hlen : its.length = l.length := by rw [hp.length_eq, items_length]
  have hmem : ∀ a : It, a ∈ its → ∃ i, ∃ h : i < l.length, a = ⟨i, l[i]⟩ := fun a ha => by
    obtain ⟨i, hi, e⟩ := List.getElem_of_mem (hp.mem_iff.1 ha)
    have hi' : i < l.length := by rw [items_length] at hi; exact hi
    exact ⟨i, hi', by rw [← e, items_at hi']⟩
  have hnd : (its.map It.ix).Nodup := by
    refine (hp.map It.ix).nodup_iff.2 ?_
    unfold items
    rw [List.map_map]
    have : (It.ix ∘ fun p : Sg × Nat => ⟨p.2, p.1⟩) = Prod.snd := rfl
    rw [this, List.zipIdx_map_snd]
    exact List.nodup_range'
  have hinj : ∀ i j (hi : i < its.length) (hj : j < its.length), its[i].ix = its[j].ix → i = j := fun i j hi hj e => by
    have key : ∀ i j (hi : i < its.length) (hj : j < its.length), i < j → its[i].ix ≠ its[j].ix := fun i j hi hj hij => by
      have := List.pairwise_iff_getElem.1 hnd i j (by simpa using hi) (by simpa using hj) hij
      simpa using this
    rcases Nat.lt_trichotomy i j with h | h | h
    · exact absurd e (key i j hi hj h)
    · exact h
    · exact absurd e.symm (key j i hj hi h)
  have hget : ∀ {i : Nat} (h : i < l.length), l.getD i ((0, 0), (0, 0)) = l[i] := fun h => by simp [List.getD, h]
  rw [mem_outP hs m _ (Nat.le_refl _), mem_allP]
  constructor
  · rintro ⟨i, j, hij, hj, hl, h1, rfl⟩
    obtain ⟨p, hp1, e1⟩ := hmem its[i] (List.getElem_mem _)
    obtain ⟨q, hq1, e2⟩ := hmem its[j] (List.getElem_mem _)
    have hne : p ≠ q := fun e => by
      have : its[i].ix = its[j].ix := by rw [e1, e2]; exact e
      have := hinj i j (by omega) hl this
      omega
    rw [e1, e2] at h1 ⊢
    simp only at h1 ⊢
    unfold kindOf
    rcases Nat.lt_or_gt_of_ne hne with h | h
    · rw [Nat.min_eq_right (Nat.le_of_lt h), Nat.max_eq_left (Nat.le_of_lt h), hget hp1, hget hq1]
      exact ⟨hp1, h, hq1, meets_comm _ _, h1⟩
    · rw [Nat.min_eq_left (Nat.le_of_lt h), Nat.max_eq_right (Nat.le_of_lt h), hget hp1, hget hq1]
      exact ⟨hq1, h, hp1, rfl, h1⟩
  · rintro ⟨h1, h2, h3, h4, h5⟩
    obtain ⟨a, b, c⟩ := m
    simp only at *
    unfold kindOf at h4
    rw [hget h1, hget h3] at h4
    have place : ∀ k (hk : k < l.length), ∃ i, ∃ hi : i < its.length, its[i] = ⟨k, l[k]⟩ := fun k hk => by
      have hm : (⟨k, l[k]⟩ : It) ∈ items l := by rw [← items_at hk]; exact List.getElem_mem _
      obtain ⟨i, hi, e⟩ := List.getElem_of_mem (hp.mem_iff.2 hm)
      exact ⟨i, hi, e⟩
    obtain ⟨i, hi, ei⟩ := place a h1
    obtain ⟨j, hj, ej⟩ := place b h3
    have hij : i ≠ j := fun e => by
      subst e
      rw [ei] at ej
      have := congrArg It.ix ej
      simp only at this
      omega
    rcases Nat.lt_or_gt_of_ne hij with h | h
    · refine ⟨i, j, h, hj, hj, ?_, ?_⟩
      · rw [ei, ej]; simp only; rw [meets_comm, ← h4]; exact h5
      · rw [ei, ej]; simp only; rw [meets_comm, ← h4, Nat.min_eq_right (Nat.le_of_lt h2), Nat.max_eq_left (Nat.le_of_lt h2)]
    · refine ⟨j, i, h, hi, hi, ?_, ?_⟩
      · rw [ei, ej]; simp only; rw [← h4]; exact h5
      · rw [ei, ej]; simp only; rw [← h4, Nat.min_eq_left (Nat.le_of_lt h2), Nat.max_eq_right (Nat.le_of_lt h2)]

end Go.Proofs.Ytdpbihbcggpobaa
