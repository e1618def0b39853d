/- How two segments meet as the reference counts it, in plain Lean; it is the same as the sweep's. -/
import Derived.Test.YtdpbihbcggpobaaGeo
namespace Go.Proofs.Ytdpbihbcggpobaa

def inBoxB (s : Sg) (p : Pt) : Bool := decide (min s.1.1 s.2.1 ≤ p.1) && decide (p.1 ≤ max s.1.1 s.2.1) && decide (min s.1.2 s.2.2 ≤ p.2) && decide (p.2 ≤ max s.1.2 s.2.2)
def onR (s : Sg) (p : Pt) : Bool := nearS s && nearB p && (inBoxB s p && decide (crossP s.1 s.2 p = 0))
def endR (s : Sg) (p : Pt) : Bool := decide (p = s.1) || decide (p = s.2)
def stepR (s t : Sg) (l : List Pt) (p : Pt) : List Pt := if (!decide (p ∈ l) && onR s p && onR t p) = true then l ++ [p] else l
def endsR (s t : Sg) : List Pt := [s.1, s.2, t.1, t.2]
def commonR (s t : Sg) : List Pt := (endsR s t).foldl (stepR s t) []
def kindR1 (s t : Sg) (l : List Pt) : Int :=
  match l with
  | [] => if ori s.1 s.2 t.1 * ori s.1 s.2 t.2 < 0 ∧ ori t.1 t.2 s.1 * ori t.1 t.2 s.2 < 0 then 3 else 0
  | [p] => if (endR s p && endR t p) = true then 1 else 2
  | _ => 5
def rmeets (s t : Sg) : Int :=
  if (nearS s && nearS t) = false then 0
  else if s = t ∨ (s.1 = t.2 ∧ s.2 = t.1) then 4
  else kindR1 s t (commonR s t)

/-- The common ends. -/
def Com (s t : Sg) (p : Pt) : Prop := p ∈ endsR s t ∧ onR s p = true ∧ onR t p = true

theorem foldR {s t : Sg} : ∀ (r l : List Pt), l.Nodup → (r.foldl (stepR s t) l).Nodup ∧ ∀ p, p ∈ r.foldl (stepR s t) l ↔ p ∈ l ∨ (p ∈ r ∧ onR s p = true ∧ onR t p = true)
  | [], l, h => ⟨h, fun p => by simp⟩
  | q :: r, l, h => by
    have hs : (stepR s t l q).Nodup ∧ ∀ p, p ∈ stepR s t l q ↔ p ∈ l ∨ (p = q ∧ onR s p = true ∧ onR t p = true) := by
      unfold stepR
      split
      · rename_i hc
        simp only [Bool.and_eq_true, Bool.not_eq_true', decide_eq_false_iff_not] at hc
        refine ⟨List.nodup_append.2 ⟨h, by simp, fun a ha b hb e => ?_⟩, fun p => ?_⟩
        · rw [List.mem_singleton] at hb; subst hb; subst e; exact hc.1.1 ha
        · rw [List.mem_append, List.mem_singleton]
          constructor
          · rintro (hp | rfl)
            · exact .inl hp
            · exact .inr ⟨rfl, hc.1.2, hc.2⟩
          · rintro (hp | ⟨rfl, _⟩)
            · exact .inl hp
            · exact .inr rfl
      · rename_i hc
        refine ⟨h, fun p => ⟨.inl, ?_⟩⟩
        rintro (hp | ⟨rfl, h1, h2⟩)
        · exact hp
        · by_cases hm : p ∈ l
          · exact hm
          · exfalso; apply hc; simp [hm, h1, h2]
    obtain ⟨h1, h2⟩ := foldR r (stepR s t l q) hs.1
    refine ⟨h1, fun p => ?_⟩
    rw [List.foldl_cons, h2, hs.2, List.mem_cons]
    constructor
    · rintro ((h | h) | h)
      · exact .inl h
      · exact .inr ⟨.inl h.1, h.2⟩
      · exact .inr ⟨.inr h.1, h.2⟩
    · rintro (h | ⟨h | h, k⟩)
      · exact .inl (.inl h)
      · exact .inl (.inr ⟨h, k⟩)
      · exact .inr ⟨h, k⟩

theorem common_mem {s t : Sg} {p : Pt} : p ∈ commonR s t ↔ Com s t p := by
  unfold commonR Com
  rw [(foldR (s := s) (t := t) (endsR s t) [] List.nodup_nil).2]
  simp
theorem common_nodup (s t : Sg) : (commonR s t).Nodup := (foldR (s := s) (t := t) (endsR s t) [] List.nodup_nil).1

theorem kind_two {s t : Sg} {p q : Pt} (hp : Com s t p) (hq : Com s t q) (hne : p ≠ q) : kindR1 s t (commonR s t) = 5 := by
  have h1 := common_mem.2 hp
  have h2 := common_mem.2 hq
  cases e : commonR s t with
  | nil => rw [e] at h1; cases h1
  | cons a l => cases l with
    | nil => rw [e] at h1 h2; rw [List.mem_singleton] at h1 h2; exact absurd (h1.trans h2.symm) hne
    | cons b l => rfl
theorem kind_one {s t : Sg} {p : Pt} (hp : Com s t p) (hu : ∀ q, Com s t q → q = p) : kindR1 s t (commonR s t) = if (endR s p && endR t p) = true then 1 else 2 := by
  have h1 := common_mem.2 hp
  have hn := common_nodup s t
  cases e : commonR s t with
  | nil => rw [e] at h1; cases h1
  | cons a l => 
    have ha : a = p := hu a (common_mem.1 (by rw [e]; exact List.mem_cons_self))
    cases l with
    | nil => rw [← ha]; rfl
    | cons b l =>
      have hb : b = p := hu b (common_mem.1 (by rw [e]; exact List.mem_cons_of_mem _ List.mem_cons_self))
      rw [e, ha, hb] at hn
      simp at hn
theorem kind_none {s t : Sg} (hu : ∀ q, ¬ Com s t q) : kindR1 s t (commonR s t) = if ori s.1 s.2 t.1 * ori s.1 s.2 t.2 < 0 ∧ ori t.1 t.2 s.1 * ori t.1 t.2 s.2 < 0 then 3 else 0 := by
  cases e : commonR s t with
  | nil => rfl
  | cons a l => exact absurd (common_mem.1 (by rw [e]; exact List.mem_cons_self)) (hu a)
/-- Two answers by the same common ends are the same. -/
theorem kind_same {s t s' t' : Sg} (hc : ∀ q, Com s t q ↔ Com s' t' q) (he : ∀ p, (endR s p && endR t p) = (endR s' p && endR t' p))
    (ho : (ori s.1 s.2 t.1 * ori s.1 s.2 t.2 < 0 ∧ ori t.1 t.2 s.1 * ori t.1 t.2 s.2 < 0) ↔ (ori s'.1 s'.2 t'.1 * ori s'.1 s'.2 t'.2 < 0 ∧ ori t'.1 t'.2 s'.1 * ori t'.1 t'.2 s'.2 < 0)) :
    kindR1 s t (commonR s t) = kindR1 s' t' (commonR s' t') := by
  by_cases h : ∃ p, Com s t p
  · obtain ⟨p, hp⟩ := h
    by_cases h2 : ∃ q, Com s t q ∧ q ≠ p
    · obtain ⟨q, hq, hne⟩ := h2
      rw [kind_two hq hp hne, kind_two ((hc q).1 hq) ((hc p).1 hp) hne]
    · have hu : ∀ q, Com s t q → q = p := fun q hq => by
        by_cases e : q = p
        · exact e
        · exact absurd ⟨q, hq, e⟩ h2
      rw [kind_one hp hu, kind_one ((hc p).1 hp) (fun q hq => hu q ((hc q).2 hq)), he]
  · have hn : ∀ q, ¬ Com s t q := fun q hq => h ⟨q, hq⟩
    rw [kind_none hn, kind_none (fun q hq => hn q ((hc q).2 hq))]
    by_cases k : ori s.1 s.2 t.1 * ori s.1 s.2 t.2 < 0 ∧ ori t.1 t.2 s.1 * ori t.1 t.2 s.2 < 0
    · rw [if_pos k, if_pos (ho.1 k)]
    · rw [if_neg k, if_neg (fun h => k (ho.2 h))]

/-! ### either order of the ends -/
theorem cross_swap (a b c : Pt) : crossP b a c = - crossP a b c := by unfold crossP; grind
theorem ori_swap (a b c : Pt) : ori b a c = - ori a b c := by
  unfold ori
  rw [Bool.and_comm (nearB b)]
  split
  · rw [cross_swap]; unfold cmpI; split <;> split <;> (try split) <;> (try split) <;> omega
  · rfl
theorem onR_swap (s : Sg) (p : Pt) : onR (s.2, s.1) p = onR s p := by
  unfold onR inBoxB nearS
  rw [Bool.and_comm (nearB (s.2, s.1).1)]
  dsimp only
  rw [Int.min_comm s.2.1, Int.min_comm s.2.2, Int.max_comm s.2.1, Int.max_comm s.2.2, cross_swap]
  have : decide (-crossP s.1 s.2 p = 0) = decide (crossP s.1 s.2 p = 0) := by rw [decide_eq_decide]; omega
  rw [this]
theorem kindR_swap (s t : Sg) : kindR1 (s.2, s.1) t (commonR (s.2, s.1) t) = kindR1 s t (commonR s t) := by
  refine kind_same (fun q => ?_) (fun p => ?_) ?_
  · unfold Com
    rw [onR_swap]
    unfold endsR
    simp only [List.mem_cons, List.not_mem_nil, or_false]
    grind
  · unfold endR
    dsimp only
    rw [Bool.or_comm (decide (p = s.2))]
  · dsimp only
    rw [ori_swap s.1 s.2 t.1, ori_swap s.1 s.2 t.2, Int.neg_mul_neg, Int.mul_comm (ori t.1 t.2 s.2)]
theorem rmeets_swap (s t : Sg) : rmeets (s.2, s.1) t = rmeets s t := by
  unfold rmeets
  rw [kindR_swap]
  have : nearS (s.2, s.1) = nearS s := Bool.and_comm _ _
  rw [this]
  have e : ((s.2, s.1) = t ∨ ((s.2, s.1).1 = t.2 ∧ (s.2, s.1).2 = t.1)) ↔ (s = t ∨ (s.1 = t.2 ∧ s.2 = t.1)) := by
    constructor
    · rintro (h | h)
      · exact .inr ⟨congrArg Prod.snd h, congrArg Prod.fst h⟩
      · exact .inl (Prod.ext h.2 h.1)
    · rintro (h | h)
      · exact .inr ⟨congrArg Prod.snd h, congrArg Prod.fst h⟩
      · exact .inl (Prod.ext h.2 h.1)
  simp only [e]
theorem kindR_comm (s t : Sg) : kindR1 t s (commonR t s) = kindR1 s t (commonR s t) := by
  refine kind_same (fun q => ?_) (fun p => Bool.and_comm _ _) And.comm
  unfold Com endsR
  simp only [List.mem_cons, List.not_mem_nil, or_false]
  grind
theorem rmeets_comm (s t : Sg) : rmeets t s = rmeets s t := by
  unfold rmeets
  rw [kindR_comm, Bool.and_comm]
  have e : (t = s ∨ (t.1 = s.2 ∧ t.2 = s.1)) ↔ (s = t ∨ (s.1 = t.2 ∧ s.2 = t.1)) := by
    constructor
    · rintro (h | h)
      · exact .inl h.symm
      · exact .inr ⟨h.2.symm, h.1.symm⟩
    · rintro (h | h)
      · exact .inl h.symm
      · exact .inr ⟨h.2.symm, h.1.symm⟩
  simp only [e]
theorem rmeets_sort (s t : Sg) : rmeets (sortS s) (sortS t) = rmeets s t := by
  have key : ∀ s t : Sg, rmeets (sortS s) t = rmeets s t := fun s t => by
    rcases sortS_ends s with e | e
    · rw [e]
    · rw [e, rmeets_swap]
  rw [key, rmeets_comm, key, rmeets_comm]

/-! ### points on a segment -/
/-- A point is on a segment whose ends are in order. -/
def Onp (s : Sg) (p : Pt) : Prop := crossP s.1 s.2 p = 0 ∧ ¬ Lt p s.1 ∧ ¬ Lt s.2 p
theorem onR_iff {s : Sg} {p : Pt} (hs : Ordered s) (ns : nearS s = true) (np : nearB p = true) : onR s p = true ↔ Onp s p := by
  unfold onR
  rw [ns, np]
  simp only [Bool.true_and, Bool.and_eq_true, decide_eq_true_iff]
  have hb : inBoxB s p = true ↔ InBox s p := by
    unfold inBoxB InBox
    simp only [Bool.and_eq_true, decide_eq_true_iff, and_assoc]
  rw [hb]
  constructor
  · rintro ⟨h, hc⟩
    refine ⟨hc, ?_⟩
    unfold InBox at h
    unfold Ordered Lt at hs
    unfold Lt
    by_cases hx : s.1.1 = s.2.1
    · omega
    · unfold crossP at hc
      have hdx : s.1.1 < s.2.1 := by omega
      constructor
      · rintro (h1 | ⟨h1, h2⟩)
        · omega
        · rw [h1, Int.sub_self, Int.mul_zero, Int.sub_zero] at hc
          rcases Int.mul_eq_zero.1 hc with h3 | h3 <;> omega
      · rintro (h1 | ⟨h1, h2⟩)
        · omega
        · have e : (s.2.1 - s.1.1) * (p.2 - s.2.2) = 0 := by
            rw [← h1] at hc
            have : (s.2.1 - s.1.1) * (p.2 - s.1.2) - (s.2.2 - s.1.2) * (s.2.1 - s.1.1) = (s.2.1 - s.1.1) * (p.2 - s.2.2) := by grind
            omega
          rcases Int.mul_eq_zero.1 e with h3 | h3 <;> omega
  · rintro ⟨hc, h1, h2⟩
    exact ⟨box_between hc h1 h2, hc⟩

theorem onp_first {s : Sg} (hs : Ordered s) : Onp s s.1 := ⟨by unfold crossP; simp, Lt.irrefl, hs⟩
theorem onp_second {s : Sg} (hs : Ordered s) : Onp s s.2 := ⟨by unfold crossP; grind, hs, Lt.irrefl⟩
theorem onp_point {s : Sg} {p : Pt} (h : s.1 = s.2) (hp : Onp s p) : p = s.1 := by
  obtain ⟨_, h1, h2⟩ := hp
  rcases lt_total p s.1 with h3 | h3 | h3
  · exact absurd h3 h1
  · exact h3
  · rw [h] at h3; exact absurd h3 h2

/-- Three points on one line. -/
theorem line_three {p q x y z : Pt} (hne : p ≠ q) (hx : crossP p q x = 0) (hy : crossP p q y = 0) (hz : crossP p q z = 0) : crossP x y z = 0 := by
  unfold crossP at *
  have key : ∀ {d1 d2 u1 u2 v1 v2 : Int}, (d1 ≠ 0 ∨ d2 ≠ 0) → d1 * u2 - d2 * u1 = 0 → d1 * v2 - d2 * v1 = 0 → u1 * v2 - u2 * v1 = 0 := by
    intro d1 d2 u1 u2 v1 v2 hd h1 h2
    rcases hd with hd | hd
    · have : d1 * (u1 * v2 - u2 * v1) = 0 := by grind
      rcases Int.mul_eq_zero.1 this with h | h
      · exact absurd h hd
      · exact h
    · have : d2 * (u1 * v2 - u2 * v1) = 0 := by grind
      rcases Int.mul_eq_zero.1 this with h | h
      · exact absurd h hd
      · exact h
  have hd : q.1 - p.1 ≠ 0 ∨ q.2 - p.2 ≠ 0 := by
    by_cases h : q.1 - p.1 = 0
    · by_cases h2 : q.2 - p.2 = 0
      · exact absurd (Prod.ext (by omega) (by omega)) hne
      · exact .inr h2
    · exact .inl h
  have a := key hd hx hy
  have b := key hd hx hz
  have c := key hd hy hz
  grind

/-- A point on the line of a segment is a mean of the ends. -/
theorem mean {s : Sg} {p : Pt} (hs : Lt s.1 s.2) (hc : crossP s.1 s.2 p = 0) : ∃ K k : Int, 0 < K ∧ (∀ u v, K * crossP u v p = (K - k) * crossP u v s.1 + k * crossP u v s.2) ∧ (0 ≤ k ↔ ¬ Lt p s.1) ∧ (k ≤ K ↔ ¬ Lt s.2 p) := by
  unfold Lt at hs
  by_cases hx : s.1.1 < s.2.1
  · refine ⟨s.2.1 - s.1.1, p.1 - s.1.1, by omega, fun u v => ?_, ?_, ?_⟩
    · unfold crossP at *; grind
    · unfold Lt
      constructor
      · rintro h (h1 | ⟨h1, h2⟩)
        · omega
        · unfold crossP at hc
          rw [h1, Int.sub_self, Int.mul_zero, Int.sub_zero] at hc
          rcases Int.mul_eq_zero.1 hc with h3 | h3 <;> omega
      · intro h; omega
    · unfold Lt
      constructor
      · rintro h (h1 | ⟨h1, h2⟩)
        · omega
        · have e : (s.2.1 - s.1.1) * (p.2 - s.2.2) = 0 := by
            unfold crossP at hc
            rw [← h1] at hc
            have : (s.2.1 - s.1.1) * (p.2 - s.1.2) - (s.2.2 - s.1.2) * (s.2.1 - s.1.1) = (s.2.1 - s.1.1) * (p.2 - s.2.2) := by grind
            omega
          rcases Int.mul_eq_zero.1 e with h3 | h3 <;> omega
      · intro h; omega
  · have hx2 : s.1.1 = s.2.1 := by omega
    have hy : s.1.2 < s.2.2 := by omega
    have hp : p.1 = s.1.1 := by
      unfold crossP at hc
      rw [← hx2, Int.sub_self, Int.zero_mul, Int.zero_sub] at hc
      have : (s.2.2 - s.1.2) * (p.1 - s.1.1) = 0 := by omega
      rcases Int.mul_eq_zero.1 this with h3 | h3 <;> omega
    refine ⟨s.2.2 - s.1.2, p.2 - s.1.2, by omega, fun u v => ?_, ?_, ?_⟩
    · unfold crossP at *; grind
    · unfold Lt; omega
    · unfold Lt; omega


/-! ### near segments with ends in order -/
section
variable {s t : Sg}

theorem com_iff (hs : Ordered s) (ht : Ordered t) (ns : nearS s = true) (nt : nearS t = true) {p : Pt} : Com s t p ↔ p ∈ endsR s t ∧ Onp s p ∧ Onp t p := by
  obtain ⟨s1, s2⟩ := near_ends ns
  obtain ⟨t1, t2⟩ := near_ends nt
  unfold Com
  constructor
  · rintro ⟨h, h1, h2⟩
    have np : nearB p = true := by
      unfold endsR at h
      simp only [List.mem_cons, List.not_mem_nil, or_false] at h
      rcases h with rfl | rfl | rfl | rfl <;> assumption
    exact ⟨h, (onR_iff hs ns np).1 h1, (onR_iff ht nt np).1 h2⟩
  · rintro ⟨h, h1, h2⟩
    have np : nearB p = true := by
      unfold endsR at h
      simp only [List.mem_cons, List.not_mem_nil, or_false] at h
      rcases h with rfl | rfl | rfl | rfl <;> assumption
    exact ⟨h, (onR_iff hs ns np).2 h1, (onR_iff ht nt np).2 h2⟩

theorem onS_iff {p : Pt} (ht : Ordered t) (nt : nearS t = true) (np : nearB p = true) (hne : t.1 ≠ t.2) : onS t p = true ↔ Onp t p := by
  obtain ⟨t1, t2⟩ := near_ends nt
  unfold onS
  rw [sortS_of ht, t1, t2, np]
  simp only [Bool.true_and]
  rw [onLine_iff, ori_zero t1 t2 np]
  unfold Onp
  constructor
  · rintro ⟨a, b, c, _⟩; exact ⟨a, b, c⟩
  · rintro ⟨a, b, c⟩; exact ⟨a, b, c, .inl hne⟩

theorem mem1 : s.1 ∈ endsR s t := by unfold endsR; simp
theorem mem2 : s.2 ∈ endsR s t := by unfold endsR; simp
theorem mem3 : t.1 ∈ endsR s t := by unfold endsR; simp
theorem mem4 : t.2 ∈ endsR s t := by unfold endsR; simp
theorem endR_iff {p : Pt} : endR s p = true ↔ p = s.1 ∨ p = s.2 := by unfold endR; simp

/-- One of them is a point. -/
theorem kind_point (hs : Ordered s) (ht : Ordered t) (ns : nearS s = true) (nt : nearS t = true) (e : s.1 = s.2) (hne : t.1 ≠ t.2) : kindR1 s t (commonR s t) = online1 s t := by
  obtain ⟨s1, s2⟩ := near_ends ns
  have hon := onS_iff ht nt s1 hne
  have hu : ∀ q, Com s t q → q = s.1 := fun q hq => onp_point e ((com_iff hs ht ns nt).1 hq).2.1
  unfold online1
  rw [if_pos e]
  cases ho : onS t s.1 with
  | false =>
    rw [if_pos rfl]
    rw [kind_none, if_neg]
    · rintro ⟨h, _⟩
      have z : ori s.1 s.2 t.1 = 0 := by
        unfold ori
        rw [← e]
        split
        · rw [show crossP s.1 s.1 t.1 = 0 by unfold crossP; simp]; rfl
        · rfl
      rw [z, Int.zero_mul] at h
      omega
    · intro q hq
      have h1 := hu q hq
      have h2 := ((com_iff hs ht ns nt).1 hq).2.2
      rw [h1] at h2
      rw [hon.2 h2] at ho
      cases ho
  | true =>
    rw [if_neg (by simp)]
    rw [kind_one ((com_iff hs ht ns nt).2 ⟨mem1, onp_first hs, hon.1 ho⟩) hu]
    have h1 : endR s s.1 = true := endR_iff.2 (.inl rfl)
    rw [h1, Bool.true_and]
    by_cases h : s.1 = t.1 ∨ s.1 = t.2
    · rw [if_pos (endR_iff.2 h), if_pos h]
    · rw [if_neg (fun h' => h (endR_iff.1 h')), if_neg h]

theorem kind_points (hs : Ordered s) (ht : Ordered t) (ns : nearS s = true) (nt : nearS t = true) (e : s.1 = s.2) (e2 : t.1 = t.2) (hne : s ≠ t) : kindR1 s t (commonR s t) = 0 := by
  rw [kind_none, if_neg]
  · rintro ⟨h, _⟩
    have z : ori s.1 s.2 t.1 = 0 := by
      unfold ori
      rw [← e]
      split
      · rw [show crossP s.1 s.1 t.1 = 0 by unfold crossP; simp]; rfl
      · rfl
    rw [z, Int.zero_mul] at h
    omega
  · intro q hq
    obtain ⟨_, h1, h2⟩ := (com_iff hs ht ns nt).1 hq
    have h3 := onp_point e h1
    have h4 := onp_point e2 h2
    exact hne (Prod.ext (h3.symm.trans h4) (by rw [← e, ← e2, ← h3, ← h4]))

theorem low_high {a b : Pt} (h : ¬ Lt a b) (k : ¬ Lt b a) : a = b := by
  rcases lt_total a b with h1 | h1 | h1
  · exact absurd h1 h
  · exact h1
  · exact absurd h1 k

/-- Two on one line. -/
theorem kind_line (hs : Ordered s) (ht : Ordered t) (ns : nearS s = true) (nt : nearS t = true) (es : s.1 ≠ s.2) (et : t.1 ≠ t.2) (h1 : crossP s.1 s.2 t.1 = 0) (h2 : crossP s.1 s.2 t.2 = 0) : kindR1 s t (commonR s t) = online1 s t := by
  obtain ⟨s1, s2⟩ := near_ends ns
  obtain ⟨t1, t2⟩ := near_ends nt
  obtain ⟨h3, h4⟩ := line_both es h1 h2
  have ls : Lt s.1 s.2 := by rcases lt_total s.1 s.2 with h | h | h; exact h; exact absurd h es; exact absurd h hs
  have lt' : Lt t.1 t.2 := by rcases lt_total t.1 t.2 with h | h | h; exact h; exact absurd h et; exact absurd h ht
  have z1 : crossP s.1 s.2 s.1 = 0 := by unfold crossP; simp
  have z2 : crossP s.1 s.2 s.2 = 0 := by unfold crossP; grind
  have z3 : crossP t.1 t.2 t.1 = 0 := by unfold crossP; simp
  have z4 : crossP t.1 t.2 t.2 = 0 := by unfold crossP; grind
  have hcom : ∀ {p}, Com s t p ↔ p ∈ endsR s t ∧ ¬ Lt p s.1 ∧ ¬ Lt s.2 p ∧ ¬ Lt p t.1 ∧ ¬ Lt t.2 p := fun {p} => by
    rw [com_iff hs ht ns nt]
    unfold Onp
    constructor
    · rintro ⟨a, ⟨_, b, c⟩, ⟨_, d, e⟩⟩; exact ⟨a, b, c, d, e⟩
    · rintro ⟨a, b, c, d, e⟩
      have : crossP s.1 s.2 p = 0 ∧ crossP t.1 t.2 p = 0 := by
        unfold endsR at a
        simp only [List.mem_cons, List.not_mem_nil, or_false] at a
        rcases a with rfl | rfl | rfl | rfl
        · exact ⟨z1, h3⟩
        · exact ⟨z2, h4⟩
        · exact ⟨h1, z3⟩
        · exact ⟨h2, z4⟩
      exact ⟨a, ⟨this.1, b, c⟩, ⟨this.2, d, e⟩⟩
  have nl : ∀ {a b c : Pt}, ¬ Lt a b → ¬ Lt b c → ¬ Lt a c := fun {a b c} h k h' => by
    rcases lt_total a b with g | g | g
    · exact h g
    · rw [g] at h'; exact k h'
    · exact k (g.trans h')
  unfold online1
  rw [if_neg es]
  simp only
  generalize hlow : (if 0 < cmpP t.1 s.1 then t.1 else s.1) = low
  generalize hhigh : (if cmpP t.2 s.2 < 0 then t.2 else s.2) = high
  have l1 : (low = s.1 ∨ low = t.1) ∧ ¬ Lt low s.1 ∧ ¬ Lt low t.1 ∧ low ∈ endsR s t := by
    rw [← hlow]
    by_cases k : 0 < cmpP t.1 s.1
    · rw [if_pos k]; exact ⟨.inr rfl, (cmpP_gt.1 k).asymm, Lt.irrefl, mem3⟩
    · rw [if_neg k]; exact ⟨.inl rfl, Lt.irrefl, fun h' => k (cmpP_gt.2 h'), mem1⟩
  have l2 : (high = s.2 ∨ high = t.2) ∧ ¬ Lt s.2 high ∧ ¬ Lt t.2 high ∧ high ∈ endsR s t := by
    rw [← hhigh]
    by_cases k : cmpP t.2 s.2 < 0
    · rw [if_pos k]; exact ⟨.inr rfl, (cmpP_lt.1 k).asymm, Lt.irrefl, mem4⟩
    · rw [if_neg k]; exact ⟨.inl rfl, Lt.irrefl, fun h' => k (cmpP_lt.2 h'), mem2⟩
  clear hlow hhigh
  have lowle : ∀ {q}, Com s t q → ¬ Lt q low ∧ ¬ Lt high q := fun {q} hq => by
    obtain ⟨_, a, b, c, d⟩ := hcom.1 hq
    refine ⟨?_, ?_⟩
    · rcases l1.1 with e | e <;> rw [e] <;> assumption
    · rcases l2.1 with e | e <;> rw [e] <;> assumption
  rcases lt_total low high with h | h | h
  · rw [if_pos (cmpP_neg1.2 h)]
    have hl : Com s t low := hcom.2 ⟨l1.2.2.2, l1.2.1, nl l2.2.1 h.asymm, l1.2.2.1, nl l2.2.2.1 h.asymm⟩
    have hh : Com s t high := hcom.2 ⟨l2.2.2.2, nl h.asymm l1.2.1, l2.2.1, nl h.asymm l1.2.2.1, l2.2.2.1⟩
    exact kind_two hl hh (fun e => by rw [e] at h; exact Lt.irrefl h)
  · rw [if_neg (fun e => by rw [cmpP_neg1, h] at e; exact Lt.irrefl e), if_pos (cmpP_eq.2 h)]
    subst h
    have hl : Com s t low := hcom.2 ⟨l1.2.2.2, l1.2.1, l2.2.1, l1.2.2.1, l2.2.2.1⟩
    rw [kind_one hl (fun q hq => low_high (lowle hq).1 (lowle hq).2), if_pos]
    rw [Bool.and_eq_true, endR_iff, endR_iff]
    rcases l1.1 with a | a <;> rcases l2.1 with b | b
    · exact absurd (a.symm.trans b) es
    · exact ⟨.inl a, .inr b⟩
    · exact ⟨.inr b, .inl a⟩
    · exact absurd (a.symm.trans b) et
  · rw [if_neg (fun e => (cmpP_neg1.1 e).asymm h), if_neg (fun e => by rw [cmpP_eq.1 e] at h; exact Lt.irrefl h)]
    rw [kind_none, if_neg]
    · rintro ⟨k, _⟩
      rw [(ori_zero s1 s2 t1).2 h1, Int.zero_mul] at k
      omega
    · intro q hq
      obtain ⟨a, b⟩ := lowle hq
      exact nl b a h

/-- Two on different lines. -/
theorem kind_cross (hs : Ordered s) (ht : Ordered t) (ns : nearS s = true) (nt : nearS t = true) (es : s.1 ≠ s.2) (et : t.1 ≠ t.2) (hz : ¬ (crossP s.1 s.2 t.1 = 0 ∧ crossP s.1 s.2 t.2 = 0)) :
    kindR1 s t (commonR s t) = if 0 < ori s.1 s.2 t.1 * ori s.1 s.2 t.2 ∨ 0 < ori t.1 t.2 s.1 * ori t.1 t.2 s.2 then 0 else if ori s.1 s.2 t.1 * ori s.1 s.2 t.2 < 0 ∧ ori t.1 t.2 s.1 * ori t.1 t.2 s.2 < 0 then 3 else if ori s.1 s.2 t.1 * ori s.1 s.2 t.2 = 0 ∧ ori t.1 t.2 s.1 * ori t.1 t.2 s.2 = 0 then 1 else 2 := by
  obtain ⟨s1, s2⟩ := near_ends ns
  obtain ⟨t1, t2⟩ := near_ends nt
  have ls : Lt s.1 s.2 := by rcases lt_total s.1 s.2 with h | h | h; exact h; exact absurd h es; exact absurd h hs
  have lt' : Lt t.1 t.2 := by rcases lt_total t.1 t.2 with h | h | h; exact h; exact absurd h et; exact absurd h ht
  have hz2 : ¬ (crossP t.1 t.2 s.1 = 0 ∧ crossP t.1 t.2 s.2 = 0) := fun h => hz (line_both et h.1 h.2)
  -- at most one common point
  have one : ∀ {p q : Pt}, crossP s.1 s.2 p = 0 → crossP t.1 t.2 p = 0 → crossP s.1 s.2 q = 0 → crossP t.1 t.2 q = 0 → p = q := fun {p q} a b c d => by
    by_cases e : p = q
    · exact e
    · exfalso
      obtain ⟨x1, x2⟩ := line_both es a c
      obtain ⟨y1, y2⟩ := line_both et b d
      exact hz ⟨line_three e x1 x2 y1, line_three e x1 x2 y2⟩
  have uni : ∀ {p}, Com s t p → ∀ q, Com s t q → q = p := fun {p} hp q hq => by
    obtain ⟨_, a, b⟩ := (com_iff hs ht ns nt).1 hp
    obtain ⟨_, c, d⟩ := (com_iff hs ht ns nt).1 hq
    exact one c.1 d.1 a.1 b.1
  have z1 : crossP s.1 s.2 s.1 = 0 := by unfold crossP; simp
  have z2 : crossP s.1 s.2 s.2 = 0 := by unfold crossP; grind
  have z3 : crossP t.1 t.2 t.1 = 0 := by unfold crossP; simp
  have z4 : crossP t.1 t.2 t.2 = 0 := by unfold crossP; grind
  -- a point on both is not strictly apart
  have apart : ∀ {s t : Sg} {p : Pt}, Lt t.1 t.2 → crossP s.1 s.2 p = 0 → Onp t p → ¬ ((0 < crossP s.1 s.2 t.1 ∧ 0 < crossP s.1 s.2 t.2) ∨ (crossP s.1 s.2 t.1 < 0 ∧ crossP s.1 s.2 t.2 < 0)) := by
    intro s t p ht hp ⟨hc, hl, hh⟩ hn
    obtain ⟨K, k, hK, he, h1, h2⟩ := mean ht hc
    have e := he s.1 s.2
    rw [hp, Int.mul_zero] at e
    have k1 := h1.2 hl
    have k2 := h2.2 hh
    rcases hn with ⟨a, b⟩ | ⟨a, b⟩
    · have e1 : (K - k) * 1 ≤ (K - k) * crossP s.1 s.2 t.1 := Int.mul_le_mul_of_nonneg_left (by omega) (by omega)
      have e2 : k * 1 ≤ k * crossP s.1 s.2 t.2 := Int.mul_le_mul_of_nonneg_left (by omega) (by omega)
      omega
    · have e1 : (K - k) * crossP s.1 s.2 t.1 ≤ (K - k) * (-1) := Int.mul_le_mul_of_nonneg_left (by omega) (by omega)
      have e2 : k * crossP s.1 s.2 t.2 ≤ k * (-1) := Int.mul_le_mul_of_nonneg_left (by omega) (by omega)
      omega
  -- a point of a line that lies between two strictly different sides is between the ends
  have between : ∀ {s t : Sg} {x : Pt}, Lt s.1 s.2 → crossP s.1 s.2 x = 0 → crossP t.1 t.2 x = 0 → ((0 < crossP t.1 t.2 s.1 ∧ crossP t.1 t.2 s.2 < 0) ∨ (crossP t.1 t.2 s.1 < 0 ∧ 0 < crossP t.1 t.2 s.2)) → Onp s x := by
    intro s t x hs hx ht hn
    obtain ⟨K, k, hK, he, h1, h2⟩ := mean hs hx
    have e := he t.1 t.2
    rw [ht, Int.mul_zero] at e
    have hk : 0 ≤ k ∧ k ≤ K := by
      generalize crossP t.1 t.2 s.1 = c at *
      generalize crossP t.1 t.2 s.2 = d at *
      rcases Int.lt_or_le k 0 with g | g
      · exfalso
        rcases hn with ⟨a, b⟩ | ⟨a, b⟩
        · have e1 : 0 < (K - k) * c := Int.mul_pos (by omega) a
          have e2 : 0 < k * d := Int.mul_pos_of_neg_of_neg g b
          omega
        · have e1 : (K - k) * c < 0 := Int.mul_neg_of_pos_of_neg (by omega) a
          have e2 : k * d < 0 := Int.mul_neg_of_neg_of_pos g b
          omega
      · refine ⟨g, ?_⟩
        rcases Int.lt_or_le K k with g2 | g2
        · exfalso
          rcases hn with ⟨a, b⟩ | ⟨a, b⟩
          · have e1 : (K - k) * c < 0 := Int.mul_neg_of_neg_of_pos (by omega) a
            have e2 : k * d < 0 := Int.mul_neg_of_pos_of_neg (by omega) b
            omega
          · have e1 : 0 < (K - k) * c := Int.mul_pos_of_neg_of_neg (by omega) a
            have e2 : 0 < k * d := Int.mul_pos (by omega) b
            omega
        · exact g2
    exact ⟨hx, h1.1 hk.1, h2.1 hk.2⟩
  have ca := ori_cases s1 s2 t1
  have cb := ori_cases s1 s2 t2
  have cc := ori_cases t1 t2 s1
  have cd := ori_cases t1 t2 s2
  have prod : ∀ {x y X Y : Int}, (X < 0 ∧ x = -1) ∨ (X = 0 ∧ x = 0) ∨ (0 < X ∧ x = 1) → (Y < 0 ∧ y = -1) ∨ (Y = 0 ∧ y = 0) ∨ (0 < Y ∧ y = 1) →
      (0 < x * y ↔ ((0 < X ∧ 0 < Y) ∨ (X < 0 ∧ Y < 0))) ∧ (x * y < 0 ↔ ((0 < X ∧ Y < 0) ∨ (X < 0 ∧ 0 < Y))) ∧ (x * y = 0 ↔ (X = 0 ∨ Y = 0)) := by
    intro x y X Y hx hy
    rcases hx with ⟨h1, rfl⟩ | ⟨h1, rfl⟩ | ⟨h1, rfl⟩ <;> rcases hy with ⟨h2, rfl⟩ | ⟨h2, rfl⟩ | ⟨h2, rfl⟩ <;> (refine ⟨?_, ?_, ?_⟩ <;> simp <;> omega)
  obtain ⟨p1, p2, p3⟩ := prod ca cb
  obtain ⟨q1, q2, q3⟩ := prod cc cd
  clear prod
  by_cases hA : 0 < ori s.1 s.2 t.1 * ori s.1 s.2 t.2 ∨ 0 < ori t.1 t.2 s.1 * ori t.1 t.2 s.2
  · rw [if_pos hA, kind_none, if_neg]
    · rintro ⟨h, k⟩; omega
    · intro q hq
      obtain ⟨_, a, b⟩ := (com_iff hs ht ns nt).1 hq
      rcases hA with hA | hA
      · exact apart lt' a.1 b (p1.1 hA)
      · exact apart ls b.1 a (q1.1 hA)
  rw [if_neg hA]
  by_cases hB : ori s.1 s.2 t.1 * ori s.1 s.2 t.2 < 0 ∧ ori t.1 t.2 s.1 * ori t.1 t.2 s.2 < 0
  · rw [if_pos hB, kind_none, if_pos hB]
    intro q hq
    obtain ⟨m, a, b⟩ := (com_iff hs ht ns nt).1 hq
    have b1 := p2.1 hB.1
    have b2 := q2.1 hB.2
    have a1 := a.1
    have a2 := b.1
    unfold endsR at m
    simp only [List.mem_cons, List.not_mem_nil, or_false] at m
    rcases m with rfl | rfl | rfl | rfl <;> omega
  rw [if_neg hB]
  by_cases hC : ori s.1 s.2 t.1 * ori s.1 s.2 t.2 = 0 ∧ ori t.1 t.2 s.1 * ori t.1 t.2 s.2 = 0
  · rw [if_pos hC]
    have c1 := p3.1 hC.1
    have c2 := q3.1 hC.2
    have hx : ∃ x, (x = t.1 ∨ x = t.2) ∧ crossP s.1 s.2 x = 0 ∧ crossP t.1 t.2 x = 0 ∧ Onp t x := by
      rcases c1 with h | h
      · exact ⟨t.1, .inl rfl, h, z3, onp_first ht⟩
      · exact ⟨t.2, .inr rfl, h, z4, onp_second ht⟩
    have hy : ∃ y, (y = s.1 ∨ y = s.2) ∧ crossP s.1 s.2 y = 0 ∧ crossP t.1 t.2 y = 0 ∧ Onp s y ∧ y ∈ endsR s t := by
      rcases c2 with h | h
      · exact ⟨s.1, .inl rfl, z1, h, onp_first hs, mem1⟩
      · exact ⟨s.2, .inr rfl, z2, h, onp_second hs, mem2⟩
    obtain ⟨x, x1, x2, x3, x4⟩ := hx
    obtain ⟨y, y1, y2, y3, y4, y5⟩ := hy
    have e : x = y := one x2 x3 y2 y3
    subst e
    have hcom : Com s t x := (com_iff hs ht ns nt).2 ⟨y5, y4, x4⟩
    rw [kind_one hcom (uni hcom), if_pos]
    rw [Bool.and_eq_true, endR_iff, endR_iff]
    exact ⟨y1, x1⟩
  · rw [if_neg hC]
    have hD : (ori s.1 s.2 t.1 * ori s.1 s.2 t.2 = 0 ∧ ori t.1 t.2 s.1 * ori t.1 t.2 s.2 < 0) ∨ (ori t.1 t.2 s.1 * ori t.1 t.2 s.2 = 0 ∧ ori s.1 s.2 t.1 * ori s.1 s.2 t.2 < 0) := by omega
    clear hA hB hC
    rcases hD with ⟨d1, d2⟩ | ⟨d1, d2⟩
    · have c1 := p3.1 d1
      have c2 := q2.1 d2
      have hx : ∃ x, (x = t.1 ∨ x = t.2) ∧ crossP s.1 s.2 x = 0 ∧ crossP t.1 t.2 x = 0 ∧ Onp t x ∧ x ∈ endsR s t := by
        rcases c1 with h | h
        · exact ⟨t.1, .inl rfl, h, z3, onp_first ht, mem3⟩
        · exact ⟨t.2, .inr rfl, h, z4, onp_second ht, mem4⟩
      obtain ⟨x, x1, x2, x3, x4, x5⟩ := hx
      have hcom : Com s t x := (com_iff hs ht ns nt).2 ⟨x5, between ls x2 x3 c2, x4⟩
      rw [kind_one hcom (uni hcom), if_neg]
      rw [Bool.and_eq_true, endR_iff, endR_iff]
      rintro ⟨rfl | rfl, _⟩ <;> omega
    · have c1 := q3.1 d1
      have c2 := p2.1 d2
      have hx : ∃ x, (x = s.1 ∨ x = s.2) ∧ crossP t.1 t.2 x = 0 ∧ crossP s.1 s.2 x = 0 ∧ Onp s x ∧ x ∈ endsR s t := by
        rcases c1 with h | h
        · exact ⟨s.1, .inl rfl, h, z1, onp_first hs, mem1⟩
        · exact ⟨s.2, .inr rfl, h, z2, onp_second hs, mem2⟩
      obtain ⟨x, x1, x2, x3, x4, x5⟩ := hx
      have hcom : Com s t x := (com_iff hs ht ns nt).2 ⟨x5, x4, between lt' x2 x3 c2⟩
      rw [kind_one hcom (uni hcom), if_neg]
      rw [Bool.and_eq_true, endR_iff, endR_iff]
      rintro ⟨_, rfl | rfl⟩ <;> omega

theorem rmeets2 (hs : Ordered s) (ht : Ordered t) (ns : nearS s = true) (nt : nearS t = true) : rmeets s t = meets2 s t := by
  obtain ⟨s1, s2⟩ := near_ends ns
  obtain ⟨t1, t2⟩ := near_ends nt
  unfold rmeets meets2
  rw [ns, nt, if_neg (by simp)]
  by_cases e : s = t
  · rw [if_pos (.inl e), if_pos e]
  rw [if_neg e, if_neg]
  · by_cases es : s.1 = s.2
    · rw [if_pos (.inl es)]
      by_cases et : t.1 = t.2
      · rw [kind_points hs ht ns nt es et e]
        unfold online
        rw [if_pos et, online1_points et es (Ne.symm e)]
      · rw [kind_point hs ht ns nt es et]
        unfold online
        rw [if_neg et]
    · by_cases et : t.1 = t.2
      · rw [if_pos (.inr (.inl et))]
        rw [← kindR_comm, kind_point ht hs nt ns et es]
        unfold online
        rw [if_pos et]
      · by_cases hz : crossP s.1 s.2 t.1 = 0 ∧ crossP s.1 s.2 t.2 = 0
        · rw [if_pos (.inr (.inr ⟨(ori_zero s1 s2 t1).2 hz.1, (ori_zero s1 s2 t2).2 hz.2⟩)), kind_line hs ht ns nt es et hz.1 hz.2]
          unfold online
          rw [if_neg et]
        · rw [if_neg, kind_cross hs ht ns nt es et hz]
          rintro (h | h | h)
          · exact es h
          · exact et h
          · exact hz ⟨(ori_zero s1 s2 t1).1 h.1, (ori_zero s1 s2 t2).1 h.2⟩
  · rintro (h | ⟨h, k⟩)
    · exact e h
    · -- s.1 = t.2 and s.2 = t.1, both in order
      unfold Ordered at hs ht
      rw [k, h] at hs
      have : t.2 = t.1 := low_high ht hs
      exact e (Prod.ext (h.trans this) (k.trans this.symm))
end

/-- The reference's answer is the sweep's. -/
theorem rmeets_meets (s t : Sg) : rmeets s t = meets s t := by
  unfold meets
  by_cases h : (nearS s && nearS t) = true
  · rw [if_pos h]
    simp only [Bool.and_eq_true] at h
    rw [← rmeets_sort, rmeets2 (sortS_ordered s) (sortS_ordered t) (by rw [sortS_near]; exact h.1) (by rw [sortS_near]; exact h.2)]
  · rw [if_neg h]
    unfold rmeets
    rw [if_pos (by simpa using h)]

end Go.Proofs.Ytdpbihbcggpobaa
