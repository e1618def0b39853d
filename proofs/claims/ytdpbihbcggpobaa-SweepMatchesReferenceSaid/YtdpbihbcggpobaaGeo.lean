/- How two segments meet, in plain Lean: no program, no memory. -/
namespace Go.Proofs.Ytdpbihbcggpobaa

abbrev Pt := Int × Int
abbrev Sg := Pt × Pt

def most : Int := 2097152
def nearB (p : Pt) : Bool := decide (-2097152 ≤ p.1) && decide (p.1 ≤ 2097152) && decide (-2097152 ≤ p.2) && decide (p.2 ≤ 2097152)
/-- The order of two numbers. -/
def cmpI (a b : Int) : Int := if a < b then -1 else if a > b then 1 else 0
def cmpP (a b : Pt) : Int := if cmpI a.1 b.1 = 0 then cmpI a.2 b.2 else cmpI a.1 b.1
def crossP (a b c : Pt) : Int := (b.1 - a.1) * (c.2 - a.2) - (b.2 - a.2) * (c.1 - a.1)
def ori (a b c : Pt) : Int := if nearB a && nearB b && nearB c then cmpI (crossP a b c) 0 else 0
def sortS (s : Sg) : Sg := if 0 < cmpP s.1 s.2 then (s.2, s.1) else s
/-- Whether a point is on a segment whose ends are in order. -/
def onLine (s : Sg) (p : Pt) : Bool := decide (ori s.1 s.2 p = 0) && decide (cmpP s.1 p ≤ 0) && decide (cmpP p s.2 ≤ 0) && (!decide (s.1 = s.2) || decide (p = s.1))
def onS (s : Sg) (p : Pt) : Bool := nearB s.1 && nearB s.2 && nearB p && onLine (sortS s) p
/-- How two different segments with ends in order meet, that are on one line, or of which one is a point. -/
def online1 (s t : Sg) : Int :=
  if s.1 = s.2 then (if onS t s.1 = false then 0 else if s.1 = t.1 ∨ s.1 = t.2 then 1 else 2)
  else
    let low := if 0 < cmpP t.1 s.1 then t.1 else s.1
    let high := if cmpP t.2 s.2 < 0 then t.2 else s.2
    if cmpP low high = -1 then 5 else if cmpP low high = 0 then 1 else 0
def online (s t : Sg) : Int := if t.1 = t.2 then online1 t s else online1 s t
/-- .. that are near, with ends in order. -/
def meets2 (s t : Sg) : Int :=
  if s = t then 4
  else if s.1 = s.2 ∨ t.1 = t.2 ∨ (ori s.1 s.2 t.1 = 0 ∧ ori s.1 s.2 t.2 = 0) then online s t
  else
    let a := ori s.1 s.2 t.1
    let b := ori s.1 s.2 t.2
    let c := ori t.1 t.2 s.1
    let d := ori t.1 t.2 s.2
    if 0 < a * b ∨ 0 < c * d then 0 else if a * b < 0 ∧ c * d < 0 then 3 else if a * b = 0 ∧ c * d = 0 then 1 else 2
def nearS (s : Sg) : Bool := nearB s.1 && nearB s.2
def meets (s t : Sg) : Int := if nearS s && nearS t then meets2 (sortS s) (sortS t) else 0

/-! ### the order -/
theorem cmpI_lt {a b : Int} : cmpI a b < 0 ↔ a < b := by unfold cmpI; split <;> (try split) <;> omega
theorem cmpI_eq {a b : Int} : cmpI a b = 0 ↔ a = b := by unfold cmpI; split <;> (try split) <;> omega
theorem cmpI_gt {a b : Int} : 0 < cmpI a b ↔ b < a := by unfold cmpI; split <;> (try split) <;> omega
theorem cmpI_cases (a b : Int) : (a < b ∧ cmpI a b = -1) ∨ (a = b ∧ cmpI a b = 0) ∨ (b < a ∧ cmpI a b = 1) := by
  unfold cmpI
  by_cases h : a < b
  · exact .inl ⟨h, if_pos h⟩
  · by_cases h2 : a > b
    · exact .inr (.inr ⟨h2, by rw [if_neg h, if_pos h2]⟩)
    · exact .inr (.inl ⟨by omega, by rw [if_neg h, if_neg h2]⟩)

/-- Points in order: by X, then by Y. -/
def Lt (a b : Pt) : Prop := a.1 < b.1 ∨ (a.1 = b.1 ∧ a.2 < b.2)
theorem cmpP_cases (a b : Pt) : (Lt a b ∧ cmpP a b = -1) ∨ (a = b ∧ cmpP a b = 0) ∨ (Lt b a ∧ cmpP a b = 1) := by
  unfold cmpP Lt
  rcases cmpI_cases a.1 b.1 with ⟨h, e⟩ | ⟨h, e⟩ | ⟨h, e⟩
  · rw [e, if_neg (by omega)]; exact .inl ⟨.inl h, rfl⟩
  · rw [if_pos e]
    rcases cmpI_cases a.2 b.2 with ⟨h2, e2⟩ | ⟨h2, e2⟩ | ⟨h2, e2⟩
    · exact .inl ⟨.inr ⟨h, h2⟩, e2⟩
    · exact .inr (.inl ⟨Prod.ext h h2, e2⟩)
    · exact .inr (.inr ⟨.inr ⟨h.symm, h2⟩, e2⟩)
  · rw [e, if_neg (by omega)]; exact .inr (.inr ⟨.inl h, rfl⟩)
theorem Lt.irrefl {a : Pt} : ¬ Lt a a := by unfold Lt; omega
theorem Lt.trans {a b c : Pt} (h : Lt a b) (k : Lt b c) : Lt a c := by unfold Lt at *; omega
theorem Lt.asymm {a b : Pt} (h : Lt a b) : ¬ Lt b a := by unfold Lt at *; omega
theorem cmpP_lt {a b : Pt} : cmpP a b < 0 ↔ Lt a b := by
  rcases cmpP_cases a b with ⟨h, e⟩ | ⟨h, e⟩ | ⟨h, e⟩
  · rw [e]; exact ⟨fun _ => h, fun _ => by omega⟩
  · rw [e]; subst h; exact ⟨fun h => by omega, fun h => absurd h Lt.irrefl⟩
  · rw [e]; exact ⟨fun h => by omega, fun h' => absurd h h'.asymm⟩
theorem cmpP_gt {a b : Pt} : 0 < cmpP a b ↔ Lt b a := by
  rcases cmpP_cases a b with ⟨h, e⟩ | ⟨h, e⟩ | ⟨h, e⟩
  · rw [e]; exact ⟨fun h => by omega, fun h' => absurd h h'.asymm⟩
  · rw [e]; subst h; exact ⟨fun h => by omega, fun h => absurd h Lt.irrefl⟩
  · rw [e]; exact ⟨fun _ => h, fun _ => by omega⟩
theorem cmpP_eq {a b : Pt} : cmpP a b = 0 ↔ a = b := by
  rcases cmpP_cases a b with ⟨h, e⟩ | ⟨h, e⟩ | ⟨h, e⟩
  · rw [e]; exact ⟨fun h => by omega, fun h' => by subst h'; exact absurd h Lt.irrefl⟩
  · rw [e]; exact ⟨fun _ => h, fun _ => rfl⟩
  · rw [e]; exact ⟨fun h => by omega, fun h' => by subst h'; exact absurd h Lt.irrefl⟩
theorem cmpP_neg1 {a b : Pt} : cmpP a b = -1 ↔ Lt a b := by
  rcases cmpP_cases a b with ⟨h, e⟩ | ⟨h, e⟩ | ⟨h, e⟩
  · rw [e]; exact ⟨fun _ => h, fun _ => rfl⟩
  · rw [e]; subst h; exact ⟨fun h => by omega, fun h => absurd h Lt.irrefl⟩
  · rw [e]; exact ⟨fun h => by omega, fun h' => absurd h h'.asymm⟩
theorem lt_total (a b : Pt) : Lt a b ∨ a = b ∨ Lt b a := by
  rcases cmpP_cases a b with ⟨h, _⟩ | ⟨h, _⟩ | ⟨h, _⟩
  · exact .inl h
  · exact .inr (.inl h)
  · exact .inr (.inr h)

/-- The ends are in order. -/
def Ordered (s : Sg) : Prop := ¬ Lt s.2 s.1
theorem sortS_ordered (s : Sg) : Ordered (sortS s) := by
  unfold sortS Ordered
  split
  · rename_i h; exact (cmpP_gt.1 h).asymm
  · rename_i h; exact fun h' => h (cmpP_gt.2 h')
theorem sortS_of {s : Sg} (h : Ordered s) : sortS s = s := by
  unfold sortS
  rw [if_neg (fun h' => h (cmpP_gt.1 h'))]
theorem sortS_swap (s : Sg) : sortS (s.2, s.1) = sortS s := by
  rcases lt_total s.1 s.2 with h | h | h
  · unfold sortS; rw [if_pos (cmpP_gt.2 h), if_neg (fun h' => h.asymm (cmpP_gt.1 h'))]
  · rw [show (s.2, s.1) = s from Prod.ext h.symm h]
  · unfold sortS; rw [if_neg (fun h' => h.asymm (cmpP_gt.1 h')), if_pos (cmpP_gt.2 h)]
theorem sortS_near (s : Sg) : nearS (sortS s) = nearS s := by
  unfold sortS
  split
  · unfold nearS; exact Bool.and_comm _ _
  · rfl
theorem sortS_ends (s : Sg) : sortS s = s ∨ sortS s = (s.2, s.1) := by
  unfold sortS
  split
  · exact .inr rfl
  · exact .inl rfl

theorem meets_swap (s t : Sg) : meets (s.2, s.1) t = meets s t := by
  unfold meets
  rw [sortS_swap]
  have : nearS (s.2, s.1) = nearS s := Bool.and_comm _ _
  rw [this]
theorem meets_swap' (s t : Sg) : meets s (t.2, t.1) = meets s t := by
  unfold meets
  rw [sortS_swap]
  have : nearS (t.2, t.1) = nearS t := Bool.and_comm _ _
  rw [this]

/-! ### the cross product -/
theorem cross_sum (a b c d : Pt) : crossP a b c + crossP c d a = crossP a b d + crossP c d b := by unfold crossP; grind
theorem cross_x (a b c d : Pt) : crossP a b c * d.1 - crossP a b d * c.1 = crossP c d b * a.1 - crossP c d a * b.1 := by unfold crossP; grind
theorem cross_y (a b c d : Pt) : crossP a b c * d.2 - crossP a b d * c.2 = crossP c d b * a.2 - crossP c d a * b.2 := by unfold crossP; grind

/-! ### the boxes -/
/-- The boxes of two segments have a common point. -/
def Over (s t : Sg) : Prop :=
  min s.1.1 s.2.1 ≤ max t.1.1 t.2.1 ∧ min t.1.1 t.2.1 ≤ max s.1.1 s.2.1 ∧ min s.1.2 s.2.2 ≤ max t.1.2 t.2.2 ∧ min t.1.2 t.2.2 ≤ max s.1.2 s.2.2
theorem Over.symm {s t : Sg} (h : Over s t) : Over t s := ⟨h.2.1, h.1, h.2.2.2, h.2.2.1⟩
def InBox (s : Sg) (p : Pt) : Prop := min s.1.1 s.2.1 ≤ p.1 ∧ p.1 ≤ max s.1.1 s.2.1 ∧ min s.1.2 s.2.2 ≤ p.2 ∧ p.2 ≤ max s.1.2 s.2.2
theorem over_of {s t : Sg} {p : Pt} (h : InBox s p) (k : InBox t p) : Over s t := by
  unfold InBox at *; unfold Over; omega
theorem over_sort {s t : Sg} (h : Over (sortS s) (sortS t)) : Over s t := by
  have key : ∀ s t : Sg, Over (sortS s) t → Over s t := fun s t h => by
    rcases sortS_ends s with e | e
    · rw [e] at h; exact h
    · rw [e] at h; unfold Over at *; simp only at h; omega
  exact (key t s (key s _ h).symm).symm

theorem weighted {p q r t x1 x2 y1 y2 K : Int} (hp : 0 ≤ p) (hq : 0 ≤ q) (hr : 0 ≤ r) (ht : 0 ≤ t) (h1 : p + q = K) (h2 : r + t = K) (hK : 0 < K) (e : p * x1 + q * x2 = r * y1 + t * y2) : min y1 y2 ≤ max x1 x2 := by
  rcases Int.lt_or_le (max x1 x2) (min y1 y2) with h | h
  · exfalso
    generalize hM : max x1 x2 = M at *
    have a1 : p * x1 ≤ p * M := Int.mul_le_mul_of_nonneg_left (by omega) hp
    have a2 : q * x2 ≤ q * M := Int.mul_le_mul_of_nonneg_left (by omega) hq
    have a3 : r * (M + 1) ≤ r * y1 := Int.mul_le_mul_of_nonneg_left (by omega) hr
    have a4 : t * (M + 1) ≤ t * y2 := Int.mul_le_mul_of_nonneg_left (by omega) ht
    have b1 : p * M + q * M = K * M := by rw [← Int.add_mul, h1]
    have b2 : r * (M + 1) + t * (M + 1) = K * (M + 1) := by rw [← Int.add_mul, h2]
    have b3 : K * (M + 1) = K * M + K := by rw [Int.mul_add, Int.mul_one]
    omega
  · exact h

/-- Each segment's ends lie on different sides of the other's line, or on it, and not all on it: the boxes meet. -/
theorem over_sides {s t : Sg} (hab : (0 ≤ crossP s.1 s.2 t.1 ∧ crossP s.1 s.2 t.2 ≤ 0) ∨ (crossP s.1 s.2 t.1 ≤ 0 ∧ 0 ≤ crossP s.1 s.2 t.2))
    (hcd : (0 ≤ crossP t.1 t.2 s.1 ∧ crossP t.1 t.2 s.2 ≤ 0) ∨ (crossP t.1 t.2 s.1 ≤ 0 ∧ 0 ≤ crossP t.1 t.2 s.2)) (hne : crossP s.1 s.2 t.1 ≠ crossP s.1 s.2 t.2) : Over s t := by
  have e0 := cross_sum s.1 s.2 t.1 t.2
  have ex := cross_x s.1 s.2 t.1 t.2
  have ey := cross_y s.1 s.2 t.1 t.2
  generalize crossP s.1 s.2 t.1 = a at *
  generalize crossP s.1 s.2 t.2 = b at *
  generalize crossP t.1 t.2 s.1 = c at *
  generalize crossP t.1 t.2 s.2 = d at *
  have n1 : ∀ x y : Int, -x * y = -(x * y) := fun x y => Int.neg_mul x y
  rcases hab with ⟨ha, hb⟩ | ⟨ha, hb⟩
  · have hK : 0 < a - b := by omega
    have hc : c ≤ 0 := by omega
    have hd : 0 ≤ d := by omega
    have w := fun x1 x2 y1 y2 (e : a * x1 + -b * x2 = d * y1 + -c * y2) => weighted (K := a - b) ha (by omega) hd (by omega) (by omega) (by omega) hK e
    have w' := fun x1 x2 y1 y2 (e : d * y1 + -c * y2 = a * x1 + -b * x2) => weighted (K := a - b) hd (by omega) ha (by omega) (by omega) (by omega) hK e
    have x1 := w t.2.1 t.1.1 s.1.1 s.2.1 (by simp only [n1]; omega)
    have x2 := w' t.2.1 t.1.1 s.1.1 s.2.1 (by simp only [n1]; omega)
    have y1 := w t.2.2 t.1.2 s.1.2 s.2.2 (by simp only [n1]; omega)
    have y2 := w' t.2.2 t.1.2 s.1.2 s.2.2 (by simp only [n1]; omega)
    unfold Over
    omega
  · have hK : 0 < b - a := by omega
    have hc : 0 ≤ c := by omega
    have hd : d ≤ 0 := by omega
    have w := fun x1 x2 y1 y2 (e : -a * x1 + b * x2 = -d * y1 + c * y2) => weighted (K := b - a) (by omega) hb (by omega) hc (by omega) (by omega) hK e
    have w' := fun x1 x2 y1 y2 (e : -d * y1 + c * y2 = -a * x1 + b * x2) => weighted (K := b - a) (by omega) hc (by omega) hb (by omega) (by omega) hK e
    have x1 := w t.2.1 t.1.1 s.1.1 s.2.1 (by simp only [n1]; omega)
    have x2 := w' t.2.1 t.1.1 s.1.1 s.2.1 (by simp only [n1]; omega)
    have y1 := w t.2.2 t.1.2 s.1.2 s.2.2 (by simp only [n1]; omega)
    have y2 := w' t.2.2 t.1.2 s.1.2 s.2.2 (by simp only [n1]; omega)
    unfold Over
    omega

/-- A point on a line, between two others in order, is in their box. -/
theorem box_between {s : Sg} {p : Pt} (hc : crossP s.1 s.2 p = 0) (h1 : ¬ Lt p s.1) (h2 : ¬ Lt s.2 p) : InBox s p := by
  unfold Lt at h1 h2
  unfold InBox
  unfold crossP at hc
  by_cases hx : s.1.1 = s.2.1
  · omega
  · have hdx : 0 < s.2.1 - s.1.1 := by omega
    have hu0 : 0 ≤ p.1 - s.1.1 := by omega
    have hu1 : p.1 - s.1.1 ≤ s.2.1 - s.1.1 := by omega
    have hy : min s.1.2 s.2.2 ≤ p.2 ∧ p.2 ≤ max s.1.2 s.2.2 := by
      generalize s.2.1 - s.1.1 = dx at *
      generalize p.1 - s.1.1 = u at *
      have hdy : s.2.2 = s.1.2 + (s.2.2 - s.1.2) := by omega
      have hpy : p.2 = s.1.2 + (p.2 - s.1.2) := by omega
      generalize s.2.2 - s.1.2 = dy at *
      generalize p.2 - s.1.2 = v at *
      have e : dx * v = dy * u := by omega
      rcases Int.le_total 0 dy with hd | hd
      · have a1 : 0 ≤ dy * u := Int.mul_nonneg hd hu0
        have a2 : dy * u ≤ dy * dx := Int.mul_le_mul_of_nonneg_left hu1 hd
        have a3 : 0 ≤ v := by
          rcases Int.lt_or_le v 0 with hv | hv
          · have : dx * v < 0 := Int.mul_neg_of_pos_of_neg hdx hv
            omega
          · exact hv
        have a4 : v ≤ dy := Int.le_of_mul_le_mul_left (by rw [e, Int.mul_comm dx dy]; exact a2) hdx
        omega
      · have a1 : dy * u ≤ 0 := Int.mul_nonpos_of_nonpos_of_nonneg hd hu0
        have a2 : dy * dx ≤ dy * u := Int.mul_le_mul_of_nonpos_left hd hu1
        have a3 : v ≤ 0 := by
          rcases Int.lt_or_le 0 v with hv | hv
          · have : 0 < dx * v := Int.mul_pos hdx hv
            omega
          · exact hv
        have a4 : dy ≤ v := Int.le_of_mul_le_mul_left (by rw [e, Int.mul_comm dx dy]; exact a2) hdx
        omega
    omega

/-! ### near points -/
theorem ori_near {a b c : Pt} (h : nearB a = true) (k : nearB b = true) (l : nearB c = true) : ori a b c = cmpI (crossP a b c) 0 := by unfold ori; rw [h, k, l]; rfl
theorem near_ends {s : Sg} (h : nearS s = true) : nearB s.1 = true ∧ nearB s.2 = true := by unfold nearS at h; simpa using h
theorem ori_zero {a b c : Pt} (h : nearB a = true) (k : nearB b = true) (l : nearB c = true) : ori a b c = 0 ↔ crossP a b c = 0 := by rw [ori_near h k l]; exact cmpI_eq
theorem ori_cases {a b c : Pt} (h : nearB a = true) (k : nearB b = true) (l : nearB c = true) : (crossP a b c < 0 ∧ ori a b c = -1) ∨ (crossP a b c = 0 ∧ ori a b c = 0) ∨ (0 < crossP a b c ∧ ori a b c = 1) := by
  rw [ori_near h k l]; exact cmpI_cases _ _

/-- Both of the other's ends on a line: so is the line the other's. -/
theorem line_both {a b c d : Pt} (hab : a ≠ b) (h1 : crossP a b c = 0) (h2 : crossP a b d = 0) : crossP c d a = 0 ∧ crossP c d b = 0 := by
  have e0 := cross_sum a b c d
  have ex := cross_x a b c d
  have ey := cross_y a b c d
  rw [h1, h2] at e0 ex ey
  have e : crossP c d a = crossP c d b := by omega
  rw [e] at ex ey ⊢
  generalize crossP c d b = k at *
  rw [Int.zero_mul, Int.zero_mul, ← Int.mul_sub] at ex ey
  have hz : k = 0 := by
    rcases Int.mul_eq_zero.1 ((show k * (a.1 - b.1) = 0 by omega)) with h | h
    · exact h
    · rcases Int.mul_eq_zero.1 ((show k * (a.2 - b.2) = 0 by omega)) with h' | h'
      · exact h'
      · exact absurd (Prod.ext (by omega) (by omega)) hab
  exact ⟨hz, hz⟩

theorem onLine_iff {s : Sg} {p : Pt} : onLine s p = true ↔ ori s.1 s.2 p = 0 ∧ ¬ Lt p s.1 ∧ ¬ Lt s.2 p ∧ (s.1 ≠ s.2 ∨ p = s.1) := by
  have h1 : cmpP s.1 p ≤ 0 ↔ ¬ Lt p s.1 := by rw [← cmpP_gt]; omega
  have h2 : cmpP p s.2 ≤ 0 ↔ ¬ Lt s.2 p := by rw [← cmpP_gt]; omega
  unfold onLine
  simp only [Bool.and_eq_true, Bool.or_eq_true, Bool.not_eq_true', decide_eq_true_iff, decide_eq_false_iff_not, h1, h2, and_assoc, ne_eq]

section
variable {s t : Sg}

theorem onS_box {p : Pt} (hs : Ordered s) (h : onS s p = true) : InBox s p := by
  unfold onS at h
  rw [sortS_of hs] at h
  simp only [Bool.and_eq_true] at h
  obtain ⟨⟨⟨n1, n2⟩, n3⟩, h⟩ := h
  obtain ⟨h1, h2, h3, _⟩ := onLine_iff.1 h
  exact box_between ((ori_zero n1 n2 n3).1 h1) h2 h3

theorem online1_over (ht : Ordered t) (hc : s.1 ≠ s.2 → crossP s.1 s.2 t.1 = 0 ∧ crossP t.1 t.2 s.1 = 0) (h : online1 s t ≠ 0) : Over s t := by
  unfold online1 at h
  by_cases e : s.1 = s.2
  · rw [if_pos e] at h
    cases ho : onS t s.1 with
    | false => rw [ho, if_pos rfl] at h; exact absurd rfl h
    | true => exact over_of (p := s.1) (by unfold InBox; omega) (onS_box ht ho)
  · rw [if_neg e] at h
    obtain ⟨c1, c2⟩ := hc e
    simp only at h
    generalize hlow : (if 0 < cmpP t.1 s.1 then t.1 else s.1) = low at h
    generalize hhigh : (if cmpP t.2 s.2 < 0 then t.2 else s.2) = high at h
    have hl : ¬ Lt high low := fun hl => by
      rw [if_neg (fun e => hl.asymm (cmpP_neg1.1 e)), if_neg (fun e => by rw [cmpP_eq.1 e] at hl; exact Lt.irrefl hl)] at h
      exact h rfl
    have l1 : ¬ Lt low s.1 ∧ ¬ Lt low t.1 ∧ crossP s.1 s.2 low = 0 ∧ crossP t.1 t.2 low = 0 := by
      have z : ∀ a b : Pt, crossP a b a = 0 := fun a b => by unfold crossP; simp
      rw [← hlow]
      by_cases h1 : 0 < cmpP t.1 s.1
      · rw [if_pos h1]
        exact ⟨(cmpP_gt.1 h1).asymm, Lt.irrefl, c1, z _ _⟩
      · rw [if_neg h1]
        exact ⟨Lt.irrefl, fun h' => h1 (cmpP_gt.2 h'), z _ _, c2⟩
    have l2 : ¬ Lt s.2 high ∧ ¬ Lt t.2 high := by
      rw [← hhigh]
      by_cases h1 : cmpP t.2 s.2 < 0
      · rw [if_pos h1]
        exact ⟨(cmpP_lt.1 h1).asymm, Lt.irrefl⟩
      · rw [if_neg h1]
        exact ⟨Lt.irrefl, fun h' => h1 (cmpP_lt.2 h')⟩
    have le : ∀ {x : Pt}, ¬ Lt x high → ¬ Lt x low := fun {x} hx h' => by
      rcases lt_total low high with h2 | h2 | h2
      · exact hx (h'.trans h2)
      · rw [h2] at h'; exact hx h'
      · exact hl h2
    exact over_of (p := low) (box_between l1.2.2.1 l1.1 (le l2.1)) (box_between l1.2.2.2 l1.2.1 (le l2.2))

/-- Segments that meet: their boxes meet. -/
theorem meets2_over (hs : Ordered s) (ht : Ordered t) (ns : nearS s = true) (nt : nearS t = true) (h : meets2 s t ≠ 0) : Over s t := by
  obtain ⟨s1, s2⟩ := near_ends ns
  obtain ⟨t1, t2⟩ := near_ends nt
  unfold meets2 at h
  by_cases e : s = t
  · subst e; unfold Over; omega
  rw [if_neg e] at h
  by_cases c : s.1 = s.2 ∨ t.1 = t.2 ∨ (ori s.1 s.2 t.1 = 0 ∧ ori s.1 s.2 t.2 = 0)
  · rw [if_pos c] at h
    unfold online at h
    rw [ori_zero s1 s2 t1, ori_zero s1 s2 t2] at c
    have hc : s.1 ≠ s.2 → t.1 ≠ t.2 → (crossP s.1 s.2 t.1 = 0 ∧ crossP t.1 t.2 s.1 = 0) := fun a b => by
      rcases c with c | c | c
      · exact absurd c a
      · exact absurd c b
      · exact ⟨c.1, (line_both a c.1 c.2).1⟩
    by_cases et : t.1 = t.2
    · rw [if_pos et] at h
      exact (online1_over hs (fun hne => absurd et hne) h).symm
    · rw [if_neg et] at h
      exact online1_over ht (fun hne => hc hne et) h
  · rw [if_neg c] at h
    simp only at h
    have hz : ¬ (crossP s.1 s.2 t.1 = 0 ∧ crossP s.1 s.2 t.2 = 0) := fun hh => c (.inr (.inr ⟨(ori_zero s1 s2 t1).2 hh.1, (ori_zero s1 s2 t2).2 hh.2⟩))
    have hg : ¬ (0 < ori s.1 s.2 t.1 * ori s.1 s.2 t.2 ∨ 0 < ori t.1 t.2 s.1 * ori t.1 t.2 s.2) := fun hh => by rw [if_pos hh] at h; exact h rfl
    clear h c
    have key : ∀ {x y X Y : Int}, (X < 0 ∧ x = -1) ∨ (X = 0 ∧ x = 0) ∨ (0 < X ∧ x = 1) → (Y < 0 ∧ y = -1) ∨ (Y = 0 ∧ y = 0) ∨ (0 < Y ∧ y = 1) → ¬ 0 < x * y → (0 ≤ X ∧ Y ≤ 0) ∨ (X ≤ 0 ∧ 0 ≤ Y) := by
      intro x y X Y hx hy hn
      rcases hx with ⟨h1, rfl⟩ | ⟨h1, rfl⟩ | ⟨h1, rfl⟩ <;> rcases hy with ⟨h2, rfl⟩ | ⟨h2, rfl⟩ | ⟨h2, rfl⟩ <;> first | omega | exact absurd (by decide) hn
    have k1 := key (ori_cases s1 s2 t1) (ori_cases s1 s2 t2) (fun hh => hg (.inl hh))
    have k2 := key (ori_cases t1 t2 s1) (ori_cases t1 t2 s2) (fun hh => hg (.inr hh))
    exact over_sides k1 k2 (fun hh => hz (by omega))

theorem meets_over (h : meets s t ≠ 0) : Over s t := by
  unfold meets at h
  by_cases hn : (nearS s && nearS t) = true
  · rw [if_pos hn] at h
    simp only [Bool.and_eq_true] at hn
    exact over_sort (meets2_over (sortS_ordered s) (sortS_ordered t) (by rw [sortS_near]; exact hn.1) (by rw [sortS_near]; exact hn.2) h)
  · rw [if_neg hn] at h; exact absurd rfl h

/-! ### either first -/
theorem online1_points (hs : s.1 = s.2) (ht : t.1 = t.2) (hne : s ≠ t) : online1 s t = 0 := by
  unfold online1
  rw [if_pos hs, if_pos]
  cases ho : onS t s.1 with
  | false => rfl
  | true =>
    exfalso
    unfold onS at ho
    rw [sortS_of (by unfold Ordered; rw [ht]; exact Lt.irrefl)] at ho
    simp only [Bool.and_eq_true] at ho
    obtain ⟨_, _, _, h4⟩ := onLine_iff.1 ho.2
    rcases h4 with h4 | h4
    · exact h4 ht
    · exact hne (Prod.ext h4 (by rw [← hs, h4, ht]))
theorem online1_comm (hs : s.1 ≠ s.2) (ht : t.1 ≠ t.2) : online1 s t = online1 t s := by
  unfold online1
  rw [if_neg hs, if_neg ht]
  have e1 : (if 0 < cmpP t.1 s.1 then t.1 else s.1) = (if 0 < cmpP s.1 t.1 then s.1 else t.1) := by
    rcases lt_total s.1 t.1 with h | h | h
    · rw [if_pos (cmpP_gt.2 h), if_neg (fun h' => h.asymm (cmpP_gt.1 h'))]
    · rw [h]
    · rw [if_neg (fun h' => h.asymm (cmpP_gt.1 h')), if_pos (cmpP_gt.2 h)]
  have e2 : (if cmpP t.2 s.2 < 0 then t.2 else s.2) = (if cmpP s.2 t.2 < 0 then s.2 else t.2) := by
    rcases lt_total s.2 t.2 with h | h | h
    · rw [if_neg (fun h' => h.asymm (cmpP_lt.1 h')), if_pos (cmpP_lt.2 h)]
    · rw [h]
    · rw [if_pos (cmpP_lt.2 h), if_neg (fun h' => h.asymm (cmpP_lt.1 h'))]
  simp only [e1, e2]
theorem online_comm (hne : s ≠ t) : online s t = online t s := by
  unfold online
  by_cases hs : s.1 = s.2
  · by_cases ht : t.1 = t.2
    · rw [if_pos ht, if_pos hs, online1_points ht hs (Ne.symm hne), online1_points hs ht hne]
    · rw [if_neg ht, if_pos hs]
  · by_cases ht : t.1 = t.2
    · rw [if_pos ht, if_neg hs]
    · rw [if_neg ht, if_neg hs]; exact online1_comm hs ht
theorem meets2_comm (ns : nearS s = true) (nt : nearS t = true) : meets2 s t = meets2 t s := by
  obtain ⟨s1, s2⟩ := near_ends ns
  obtain ⟨t1, t2⟩ := near_ends nt
  unfold meets2
  by_cases e : s = t
  · rw [if_pos e, if_pos e.symm]
  rw [if_neg e, if_neg (Ne.symm e)]
  have key : ∀ {s t : Sg}, nearB s.1 = true → nearB s.2 = true → nearB t.1 = true → nearB t.2 = true → (s.1 = s.2 ∨ t.1 = t.2 ∨ (ori s.1 s.2 t.1 = 0 ∧ ori s.1 s.2 t.2 = 0)) → (t.1 = t.2 ∨ s.1 = s.2 ∨ (ori t.1 t.2 s.1 = 0 ∧ ori t.1 t.2 s.2 = 0)) := by
    intro s t s1 s2 t1 t2 h
    by_cases hs : s.1 = s.2
    · exact .inr (.inl hs)
    by_cases ht : t.1 = t.2
    · exact .inl ht
    rcases h with h | h | h
    · exact absurd h hs
    · exact absurd h ht
    · rw [ori_zero s1 s2 t1, ori_zero s1 s2 t2] at h
      rw [ori_zero t1 t2 s1, ori_zero t1 t2 s2]
      exact .inr (.inr (line_both hs h.1 h.2))
  by_cases c : s.1 = s.2 ∨ t.1 = t.2 ∨ (ori s.1 s.2 t.1 = 0 ∧ ori s.1 s.2 t.2 = 0)
  · rw [if_pos c, if_pos (key s1 s2 t1 t2 c)]
    exact online_comm e
  · rw [if_neg c, if_neg (fun h => c (key t1 t2 s1 s2 h))]
    simp only
    generalize ori s.1 s.2 t.1 * ori s.1 s.2 t.2 = x
    generalize ori t.1 t.2 s.1 * ori t.1 t.2 s.2 = y
    simp only [Or.comm (a := 0 < x), And.comm (a := x < 0), And.comm (a := x = 0)]
theorem meets_comm (s t : Sg) : meets s t = meets t s := by
  unfold meets
  by_cases h : (nearS s && nearS t) = true
  · rw [if_pos h, if_pos (by rw [Bool.and_comm]; exact h)]
    simp only [Bool.and_eq_true] at h
    exact meets2_comm (by rw [sortS_near]; exact h.1) (by rw [sortS_near]; exact h.2)
  · rw [if_neg h, if_neg (by rw [Bool.and_comm]; exact h)]
end

end Go.Proofs.Ytdpbihbcggpobaa
