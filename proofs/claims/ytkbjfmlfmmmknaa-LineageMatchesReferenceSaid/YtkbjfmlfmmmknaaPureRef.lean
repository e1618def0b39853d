/- The reference's two lists, in plain Lean, and that they read as the sets do: no program, no memory. -/
import Derived.Test.YtkbjfmlfmmmknaaPureLaws
namespace Go.Proofs.Ytkbjfmlfmmmknaa

/-- The pairs (what was, what is), and the Ids that are mentioned. -/
structure RS where
  ps : List (Key × Key)
  ms : List Key

def RS.pair (r : RS) (a b : Key) : Bool := if a ∈ r.ms then decide ((a, b) ∈ r.ps) else a == b
def RS.mention (r : RS) (k : Key) : RS := if k ∈ r.ms then r else ⟨r.ps ++ [(k, k)], r.ms ++ [k]⟩
def RS.add (r : RS) (a b : Key) : RS := if r.pair a b = true then r else ⟨r.ps ++ [(a, b)], r.ms⟩
def RS.drop (r : RS) (k : Key) : RS := ⟨r.ps.filter (fun p => !(p.2 == k)), r.ms⟩
def RS.addOne (i o : Key) (r : RS) (a : Key) : RS := if r.pair a i = true then r.add a o else r
def RS.adds (all : List Key) (i o : Key) (r : RS) : RS := all.foldl (RS.addOne i o) r

def RS.err (r : RS) (e : Ed) : Int :=
  if (e.op < 1 ∨ 7 < e.op) ∨ (e.two = true ∧ e.id = e.other) then 1
  else if (e.op ≠ 1 ∧ r.pair e.id e.id = false) ∨ (e.op = 7 ∧ r.pair e.other e.other = false) then 11
  else if (e.op = 1 ∧ e.obj ∈ r.ms) ∨ (e.op = 6 ∧ e.other ∈ r.ms) then 9 else 0

def RS.said (r : RS) (e : Ed) : RS := if e.two = true then (r.mention e.id).mention e.other else r.mention e.id
def RS.step (r : RS) (e : Ed) : RS :=
  if r.err e ≠ 0 then r
  else if e.op = 1 then r.mention e.obj
  else if e.op = 6 then (r.said e).adds (r.said e).ms e.id e.other
  else if e.op = 7 then ((r.said e).adds (r.said e).ms e.other e.id).drop e.other
  else if e.op = 5 then (r.said e).drop e.id
  else r.said e

/-- The lists read as the sets. -/
structure Sim (st : St) (r : RS) : Prop where
  known : ∀ k, k ∈ r.ms ↔ (st k).isSome = true
  pair : ∀ a b, a ∈ r.ms → ((a, b) ∈ r.ps ↔ ofS st a b = true)
  first : ∀ p ∈ r.ps, p.1 ∈ r.ms
  nodup : r.ps.Nodup

theorem sim_start : Sim (fun _ => none) ⟨[], []⟩ := ⟨by simp, by simp, by simp, by simp⟩

section
variable {st : St} {r : RS} {e : Ed}

theorem Sim.pairB (h : Sim st r) (a b : Key) : r.pair a b = ofS st a b := by
  unfold RS.pair
  by_cases ha : a ∈ r.ms
  · rw [if_pos ha, Bool.eq_iff_iff, decide_eq_true_iff]; exact h.pair a b ha
  · rw [if_neg ha]
    have : st a = none := by
      cases hs : st a with
      | none => rfl
      | some S => exact absurd ((h.known a).2 (by rw [hs]; rfl)) ha
    unfold ofS
    rw [this]
    exact Bool.eq_iff_iff.2 ⟨fun h => by rw [beq_iff_eq] at h ⊢; exact h.symm, fun h => by rw [beq_iff_eq] at h ⊢; exact h.symm⟩

theorem Sim.errB (h : Sim st r) : r.err e = err st e := by
  unfold RS.err Go.Proofs.Ytkbjfmlfmmmknaa.err
  simp only [h.pairB]
  by_cases c1 : (e.op < 1 ∨ 7 < e.op) ∨ (e.two = true ∧ e.id = e.other)
  · rw [if_pos c1, if_pos c1]
  rw [if_neg c1, if_neg c1]
  have e3 : ((st e.fresh).isSome = true ∧ (e.op = 1 ∨ e.op = 6)) ↔ ((e.op = 1 ∧ e.obj ∈ r.ms) ∨ (e.op = 6 ∧ e.other ∈ r.ms)) := by
    rw [h.known, h.known]
    unfold Ed.fresh
    by_cases h1 : e.op = 1
    · simp [h1]
    · simp [h1, and_comm]
  simp only [e3]

theorem Sim.mention (h : Sim st r) (k : Key) : Sim (mentionS st k) (r.mention k) := by
  unfold RS.mention
  by_cases hk : k ∈ r.ms
  · rw [if_pos hk]
    refine ⟨fun j => ?_, fun a b ha => ?_, h.first, h.nodup⟩
    · rw [mentionS_some, h.known]
      exact ⟨.inl, fun hh => hh.elim id (fun e => by subst e; exact (h.known _).1 hk)⟩
    · rw [mentionS_ofS]; exact h.pair a b ha
  · rw [if_neg hk]
    have hn : st k = none := by
      cases hs : st k with
      | none => rfl
      | some S => exact absurd ((h.known k).2 (by rw [hs]; rfl)) hk
    refine ⟨fun j => ?_, fun a b ha => ?_, fun p hp => ?_, ?_⟩
    · rw [mentionS_some, List.mem_append, h.known, List.mem_singleton]
    · rw [mentionS_ofS, List.mem_append, List.mem_singleton]
      by_cases hak : a = k
      · subst hak
        have : ofS st a b = (b == a) := by unfold ofS; rw [hn]
        rw [this]
        constructor
        · rintro (hp | hp)
          · exact absurd (h.first _ hp) hk
          · have : b = a := by simpa using hp
            simp [this]
        · intro hb
          have : b = a := by simpa using hb
          exact .inr (by rw [this])
      · have ha' : a ∈ r.ms := by
          rcases List.mem_append.1 ha with ha | ha
          · exact ha
          · exact absurd (List.mem_singleton.1 ha) hak
        rw [← h.pair a b ha']
        exact ⟨fun hh => hh.elim id (fun e => absurd (congrArg Prod.fst e) hak), .inl⟩
    · rcases List.mem_append.1 hp with hp | hp
      · exact List.mem_append.2 (.inl (h.first p hp))
      · rw [List.mem_singleton.1 hp]; simp
    · refine List.nodup_append.2 ⟨h.nodup, by simp, fun a ha b hb => ?_⟩
      rw [List.mem_singleton.1 hb]
      rintro rfl
      exact hk (h.first _ ha)

theorem Sim.said (h : Sim st r) (h1 : e.op ≠ 1) : Sim (ment st e) (r.said e) := by
  have hm : e.main = e.id := by unfold Ed.main; rw [if_neg h1]
  unfold ment RS.said
  rw [hm]
  by_cases ht : e.two = true
  · rw [if_pos ht, if_pos ht]; exact (h.mention e.id).mention e.other
  · rw [if_neg ht, if_neg ht]; exact h.mention e.id

end

/-- What is behind the loop that adds. -/
theorem adds_law {i o : Key} (hio : i ≠ o) : ∀ (all : List Key) (r : RS), (∀ a ∈ all, a ∈ r.ms) → (∀ p ∈ r.ps, p.1 ∈ r.ms) → r.ps.Nodup →
    (r.adds all i o).ms = r.ms ∧ (∀ a b, (a, b) ∈ (r.adds all i o).ps ↔ (a, b) ∈ r.ps ∨ (b = o ∧ a ∈ all ∧ (a, i) ∈ r.ps)) ∧ (r.adds all i o).ps.Nodup ∧ (r.adds all i o).ps.length ≤ r.ps.length + all.length
  | [], r, _, _, hn => ⟨rfl, fun a b => by simp [RS.adds], hn, by simp [RS.adds]⟩
  | x :: all, r, ha, hf, hn => by
    have hx : x ∈ r.ms := ha x (by simp)
    have hpi : ∀ b, r.pair x b = true ↔ (x, b) ∈ r.ps := fun b => by unfold RS.pair; rw [if_pos hx, decide_eq_true_iff]
    have key : ∃ r1 : RS, r.adds (x :: all) i o = r1.adds all i o ∧ r1.ms = r.ms ∧ (∀ a b, (a, b) ∈ r1.ps ↔ (a, b) ∈ r.ps ∨ (b = o ∧ a = x ∧ (x, i) ∈ r.ps)) ∧ r1.ps.Nodup ∧ r1.ps.length ≤ r.ps.length + 1 := by
      refine ⟨RS.addOne i o r x, rfl, ?_⟩
      unfold RS.addOne
      by_cases h1 : r.pair x i = true
      · rw [if_pos h1]
        have h1' := (hpi i).1 h1
        unfold RS.add
        by_cases h2 : r.pair x o = true
        · rw [if_pos h2]
          have h2' := (hpi o).1 h2
          refine ⟨rfl, fun a b => ⟨.inl, ?_⟩, hn, by omega⟩
          rintro (h | ⟨rfl, rfl, _⟩)
          · exact h
          · exact h2'
        · rw [if_neg h2]
          have h2' : ¬ (x, o) ∈ r.ps := fun h => h2 ((hpi o).2 h)
          refine ⟨rfl, fun a b => ?_, ?_, by simp⟩
          · simp only [List.mem_append, List.mem_singleton, Prod.mk.injEq]
            exact ⟨fun h => h.imp id (fun ⟨h3, h4⟩ => ⟨h4, h3, h1'⟩), fun h => h.imp id (fun ⟨h3, h4, _⟩ => ⟨h4, h3⟩)⟩
          · refine List.nodup_append.2 ⟨hn, by simp, fun a h b hb => ?_⟩
            rw [List.mem_singleton.1 hb]
            rintro rfl
            exact h2' h
      · rw [if_neg h1]
        refine ⟨rfl, fun a b => ⟨.inl, ?_⟩, hn, by omega⟩
        rintro (h | ⟨_, _, h⟩)
        · exact h
        · exact absurd ((hpi i).2 h) h1
    obtain ⟨r1, e1, m1, p1, n1, l1⟩ := key
    have f1 : ∀ p ∈ r1.ps, p.1 ∈ r1.ms := by
      rintro ⟨a, b⟩ hp
      rw [m1]
      rcases (p1 a b).1 hp with h | ⟨_, rfl, _⟩
      · exact hf _ h
      · exact hx
    obtain ⟨i1, i2, i3, i4⟩ := adds_law hio all r1 (fun a h => by rw [m1]; exact ha a (by simp [h])) f1 n1
    rw [e1]
    refine ⟨i1.trans m1, fun a b => ?_, i3, by simp only [List.length_cons]; omega⟩
    rw [i2, p1, p1, List.mem_cons]
    constructor
    · rintro ((h | ⟨rfl, rfl, h⟩) | ⟨rfl, h, (h' | ⟨h', _, _⟩)⟩)
      · exact .inl h
      · exact .inr ⟨rfl, .inl rfl, h⟩
      · exact .inr ⟨rfl, .inr h, h'⟩
      · exact absurd h' hio
    · rintro (h | ⟨rfl, (rfl | h), h'⟩)
      · exact .inl (.inl h)
      · exact .inl (.inr ⟨rfl, rfl, h'⟩)
      · exact .inr ⟨rfl, h, .inl h'⟩

section
variable {st : St} {r : RS} {e : Ed}

/-- Both follow an edit alike. -/
theorem Sim.step (h : Sim st r) (e : Ed) : Sim (Go.Proofs.Ytkbjfmlfmmmknaa.step st e) (r.step e) := by
  have hE := h.errB (e := e)
  unfold RS.step
  rw [hE]
  by_cases h0 : Go.Proofs.Ytkbjfmlfmmmknaa.err st e = 0
  · rw [if_neg (by simpa using h0)]
    obtain ⟨g1, g2, g3, g4, g5, g6, g7⟩ := err_zero h0
    by_cases o1 : e.op = 1
    · rw [if_pos o1]
      have hs := h.mention e.obj
      have hmain : e.main = e.obj := by unfold Ed.main; rw [if_pos o1]
      have ht : e.two = false := by unfold Ed.two; simp [o1]
      refine ⟨fun k => ?_, fun a b ha => ?_, hs.first, hs.nodup⟩
      · rw [hs.known, step_some h0, mentionS_some, hmain, ht]
        simp
      · rw [hs.pair a b ha, mentionS_ofS, ofS_step h0, updN (by omega) (by omega) (by omega)]
    rw [if_neg o1]
    have hs := h.said o1
    have hk : ∀ k, k ∈ (r.said e).ms ↔ (Go.Proofs.Ytkbjfmlfmmmknaa.step st e k).isSome = true := fun k => by rw [hs.known, step_some h0, ment_some]
    have hp : ∀ a b, a ∈ (r.said e).ms → ((a, b) ∈ (r.said e).ps ↔ ofS st a b = true) := fun a b ha => by rw [hs.pair a b ha, ment_ofS]
    by_cases o6 : e.op = 6
    · rw [if_pos o6]
      have hio := g3 (.inl o6)
      obtain ⟨m1, p1, n1, _⟩ := adds_law hio (r.said e).ms (r.said e) (fun _ h => h) hs.first hs.nodup
      refine ⟨fun k => by rw [m1]; exact hk k, fun a b ha => ?_, fun p hp => ?_, n1⟩
      · rw [m1] at ha
        rw [p1, ofS_step h0, upd6 o6, hp a b ha, hp a e.id ha]
        simp [ha]
      · rw [m1]
        rcases (p1 p.1 p.2).1 hp with h | ⟨_, h, _⟩
        · exact hs.first p h
        · exact h
    rw [if_neg o6]
    by_cases o7 : e.op = 7
    · rw [if_pos o7]
      have hio := g3 (.inr o7)
      obtain ⟨m1, p1, n1, _⟩ := adds_law (Ne.symm hio) (r.said e).ms (r.said e) (fun _ h => h) hs.first hs.nodup
      have hd : ∀ a b, (a, b) ∈ (((r.said e).adds (r.said e).ms e.other e.id).drop e.other).ps ↔ ((a, b) ∈ (r.said e).ps ∨ (b = e.id ∧ a ∈ (r.said e).ms ∧ (a, e.other) ∈ (r.said e).ps)) ∧ b ≠ e.other := fun a b => by
        unfold RS.drop
        rw [List.mem_filter, p1]
        simp
      refine ⟨fun k => ?_, fun a b ha => ?_, fun p hp' => ?_, ?_⟩
      · show k ∈ ((r.said e).adds (r.said e).ms e.other e.id).ms ↔ _
        rw [m1]; exact hk k
      · have ha' : a ∈ (r.said e).ms := by
          have ha2 : a ∈ ((r.said e).adds (r.said e).ms e.other e.id).ms := ha
          rw [m1] at ha2; exact ha2
        rw [hd, ofS_step h0, upd7 o7, hp a b ha', hp a e.other ha']
        by_cases hb : b = e.id
        · subst hb
          simp [ha', hio]
        · simp [hb]
      · show p.1 ∈ ((r.said e).adds (r.said e).ms e.other e.id).ms
        rw [m1]
        rcases ((hd p.1 p.2).1 hp').1 with h | ⟨_, h, _⟩
        · exact hs.first p h
        · exact h
      · exact n1.filter _
    rw [if_neg o7]
    by_cases o5 : e.op = 5
    · rw [if_pos o5]
      refine ⟨fun k => hk k, fun a b ha => ?_, fun p hp' => hs.first p (List.mem_filter.1 hp').1, hs.nodup.filter _⟩
      unfold RS.drop
      rw [List.mem_filter, ofS_step h0, upd5 o5, hp a b ha]
      simp
    · rw [if_neg o5]
      refine ⟨hk, fun a b ha => ?_, hs.first, hs.nodup⟩
      rw [hp a b ha, ofS_step h0, updN o5 o6 o7]
  · rw [if_pos h0, step_same h0]
    exact h
end

theorem mention_len (r : RS) (k : Key) : (r.mention k).ps.length ≤ r.ps.length + 1 ∧ (r.mention k).ms.length ≤ r.ms.length + 1 := by
  unfold RS.mention
  split
  · exact ⟨by omega, by omega⟩
  · simp
theorem add_len (r : RS) (a b : Key) : (r.add a b).ps.length ≤ r.ps.length + 1 ∧ (r.add a b).ms = r.ms := by
  unfold RS.add
  split
  · exact ⟨by omega, rfl⟩
  · simp
theorem addOne_len (i o : Key) (r : RS) (a : Key) : (RS.addOne i o r a).ps.length ≤ r.ps.length + 1 ∧ (RS.addOne i o r a).ms = r.ms := by
  unfold RS.addOne
  split
  · exact add_len r a o
  · exact ⟨by omega, rfl⟩
theorem adds_len (i o : Key) : ∀ (all : List Key) (r : RS), (r.adds all i o).ps.length ≤ r.ps.length + all.length ∧ (r.adds all i o).ms = r.ms
  | [], r => ⟨by simp [RS.adds], rfl⟩
  | a :: all, r => by
    have h1 := addOne_len i o r a
    have h2 := adds_len i o all (RS.addOne i o r a)
    refine ⟨?_, h2.2.trans h1.2⟩
    have : (r.adds (a :: all) i o) = (RS.addOne i o r a).adds all i o := rfl
    rw [this, List.length_cons]
    omega
theorem said_len (r : RS) (e : Ed) : (r.said e).ps.length ≤ r.ps.length + 2 ∧ (r.said e).ms.length ≤ r.ms.length + 2 := by
  unfold RS.said
  split
  · have h1 := mention_len r e.id
    have h2 := mention_len (r.mention e.id) e.other
    omega
  · have h1 := mention_len r e.id
    omega
/-- How much longer the lists grow by one edit. -/
theorem RS.step_len (r : RS) (e : Ed) : (r.step e).ps.length ≤ r.ps.length + r.ms.length + 4 ∧ (r.step e).ms.length ≤ r.ms.length + 2 := by
  have h0 := said_len r e
  have hm := mention_len r e.obj
  unfold RS.step
  split
  · omega
  · split
    · omega
    · split
      · have h1 := adds_len e.id e.other (r.said e).ms (r.said e)
        rw [h1.2]; omega
      · split
        · have h1 := adds_len e.other e.id (r.said e).ms (r.said e)
          have h2 : (((r.said e).adds (r.said e).ms e.other e.id).drop e.other).ps.length ≤ ((r.said e).adds (r.said e).ms e.other e.id).ps.length := List.length_filter_le _ _
          have h3 : (((r.said e).adds (r.said e).ms e.other e.id).drop e.other).ms = ((r.said e).adds (r.said e).ms e.other e.id).ms := rfl
          rw [h3, h1.2]; omega
        · split
          · have h2 : ((r.said e).drop e.id).ps.length ≤ (r.said e).ps.length := List.length_filter_le _ _
            have h3 : ((r.said e).drop e.id).ms = (r.said e).ms := rfl
            rw [h3]; omega
          · omega

/-! ### put: a string is laid into a rising list -/
def putP (l : List Key) (s : Key) : List Key := l.takeWhile (fun x => decide (x < s)) ++ s :: l.dropWhile (fun x => decide (x < s))

theorem mem_putP (l : List Key) (s k : Key) : k ∈ putP l s ↔ k = s ∨ k ∈ l := by
  have h : ∀ k, k ∈ l ↔ k ∈ l.takeWhile (fun x => decide (x < s)) ∨ k ∈ l.dropWhile (fun x => decide (x < s)) := fun k => by
    rw [← List.mem_append, List.takeWhile_append_dropWhile]
  unfold putP
  rw [List.mem_append, List.mem_cons, h k]
  exact ⟨fun h => h.elim (fun h => .inr (.inl h)) (fun h => h.elim .inl (fun h => .inr (.inr h))), fun h => h.elim (fun h => .inr (.inl h)) (fun h => h.elim .inl (fun h => .inr (.inr h)))⟩
theorem putP_length (l : List Key) (s : Key) : (putP l s).length = l.length + 1 := by
  have : l.length = (l.takeWhile (fun x => decide (x < s))).length + (l.dropWhile (fun x => decide (x < s))).length := by
    rw [← List.length_append, List.takeWhile_append_dropWhile]
  unfold putP
  rw [List.length_append, List.length_cons]
  omega

theorem putP_rises : ∀ {l : List Key} {s : Key}, l.Pairwise (· < ·) → s ∉ l → (putP l s).Pairwise (· < ·)
  | [], s, _, _ => by simp [putP]
  | a :: l, s, h, hs => by
    obtain ⟨h1, h2⟩ := List.pairwise_cons.1 h
    by_cases ha : a < s
    · have e : putP (a :: l) s = a :: putP l s := by unfold putP; simp [ha]
      rw [e]
      refine List.pairwise_cons.2 ⟨fun k hk => ?_, putP_rises h2 (fun h => hs (by simp [h]))⟩
      rcases (mem_putP l s k).1 hk with rfl | hk
      · exact ha
      · exact h1 k hk
    · have e : putP (a :: l) s = s :: a :: l := by unfold putP; simp [ha]
      rw [e]
      have hsa : s < a := by
        rcases Classical.em (s < a) with h | h
        · exact h
        · exact absurd (List.le_antisymm (List.not_lt.1 ha) (List.not_lt.1 h)) (fun e => hs (by simp [e]))
      refine List.pairwise_cons.2 ⟨fun k hk => ?_, h⟩
      rcases List.mem_cons.1 hk with rfl | hk
      · exact hsa
      · exact List.lt_trans hsa (h1 k hk)

def puts (l : List Key) : List Key := l.foldl putP []
theorem puts_law : ∀ (l out : List Key), out.Pairwise (· < ·) → l.Nodup → (∀ k ∈ l, k ∉ out) → (l.foldl putP out).Pairwise (· < ·) ∧ ∀ k, k ∈ l.foldl putP out ↔ k ∈ out ∨ k ∈ l
  | [], out, h, _, _ => ⟨h, fun k => by simp⟩
  | a :: l, out, h, hn, hd => by
    obtain ⟨n1, n2⟩ := List.nodup_cons.1 hn
    have ih := puts_law l (putP out a) (putP_rises h (hd a (by simp))) n2 (fun k hk hm => by
      rcases (mem_putP out a k).1 hm with rfl | hm
      · exact n1 hk
      · exact hd k (by simp [hk]) hm)
    refine ⟨ih.1, fun k => ?_⟩
    rw [List.foldl_cons, ih.2, mem_putP, List.mem_cons]
    constructor
    · rintro ((h | h) | h)
      · exact .inr (.inl h)
      · exact .inl h
      · exact .inr (.inr h)
    · rintro (h | h | h)
      · exact .inl (.inr h)
      · exact .inl (.inl h)
      · exact .inr h
theorem puts_length (l : List Key) : (puts l).length = l.length := by
  have : ∀ (l out : List Key), (l.foldl putP out).length = out.length + l.length := by
    intro l
    induction l with
    | nil => intro out; rfl
    | cons a l ih => intro out; rw [List.foldl_cons, ih, putP_length, List.length_cons]; omega
  unfold puts
  rw [this]; simp

/-- The seconds of the pairs whose first is an Id; the firsts of those whose second is. -/
def RS.secs (ps : List (Key × Key)) (k : Key) : List Key := (ps.filter fun p => p.1 == k).map Prod.snd
def RS.firsts (ps : List (Key × Key)) (k : Key) : List Key := (ps.filter fun p => p.2 == k).map Prod.fst
def RS.now (r : RS) (k : Key) : List Key := if k ∈ r.ms then puts (RS.secs r.ps k) else [k]
def RS.then_ (r : RS) (k : Key) : List Key := if k ∈ r.ms then puts (RS.firsts r.ps k) else [k]

theorem nodup_map_on {α β : Type} {f : α → β} : ∀ {l : List α}, l.Nodup → (∀ x ∈ l, ∀ y ∈ l, f x = f y → x = y) → (l.map f).Nodup
  | [], _, _ => by simp
  | a :: l, h, hi => by
    obtain ⟨h1, h2⟩ := List.nodup_cons.1 h
    rw [List.map_cons, List.nodup_cons]
    refine ⟨fun hm => ?_, nodup_map_on h2 (fun x hx y hy => hi x (by simp [hx]) y (by simp [hy]))⟩
    obtain ⟨b, hb, e⟩ := List.mem_map.1 hm
    exact h1 (hi b (by simp [hb]) a (by simp) e ▸ hb)

section
variable {st : St} {r : RS}
theorem Sim.now (h : Sim st r) (k : Key) : (r.now k).Pairwise (· < ·) ∧ ∀ b, b ∈ r.now k ↔ ofS st k b = true := by
  unfold RS.now
  by_cases hk : k ∈ r.ms
  · rw [if_pos hk]
    have hn : (RS.secs r.ps k).Nodup := nodup_map_on (h.nodup.filter _) (fun x hx y hy e => by
      have h1 := (List.mem_filter.1 hx).2
      have h2 := (List.mem_filter.1 hy).2
      exact Prod.ext ((by simpa using h1 : x.1 = k).trans (by simpa using h2 : y.1 = k).symm) e)
    obtain ⟨p1, p2⟩ := puts_law (RS.secs r.ps k) [] List.Pairwise.nil hn (fun _ _ h => by cases h)
    refine ⟨p1, fun b => ?_⟩
    have := p2 b
    unfold puts
    rw [this, ← h.pair k b hk]
    unfold RS.secs
    constructor
    · rintro (h | h)
      · cases h
      · obtain ⟨⟨x, y⟩, hp, rfl⟩ := List.mem_map.1 h
        obtain ⟨hp2, hx⟩ := List.mem_filter.1 hp
        have : x = k := by simpa using hx
        rw [← this]
        exact hp2
    · intro h
      exact .inr (List.mem_map.2 ⟨(k, b), List.mem_filter.2 ⟨h, by simp⟩, rfl⟩)
  · rw [if_neg hk]
    refine ⟨by simp, fun b => ?_⟩
    rw [← h.pairB]
    unfold RS.pair
    rw [if_neg hk, List.mem_singleton, beq_iff_eq]
    exact eq_comm
theorem Sim.then_ (h : Sim st r) (hi : Inv st) (k : Key) : (r.then_ k).Pairwise (· < ·) ∧ ∀ a, a ∈ r.then_ k ↔ ofS st a k = true := by
  unfold RS.then_
  by_cases hk : k ∈ r.ms
  · rw [if_pos hk]
    have hn : (RS.firsts r.ps k).Nodup := nodup_map_on (h.nodup.filter _) (fun x hx y hy e => by
      have h1 := (List.mem_filter.1 hx).2
      have h2 := (List.mem_filter.1 hy).2
      exact Prod.ext e ((by simpa using h1 : x.2 = k).trans (by simpa using h2 : y.2 = k).symm))
    obtain ⟨p1, p2⟩ := puts_law (RS.firsts r.ps k) [] List.Pairwise.nil hn (fun _ _ h => by cases h)
    refine ⟨p1, fun a => ?_⟩
    have := p2 a
    unfold puts
    rw [this, ← h.pairB]
    unfold RS.firsts RS.pair
    constructor
    · rintro (h1 | h1)
      · cases h1
      · obtain ⟨⟨x, y⟩, hp, rfl⟩ := List.mem_map.1 h1
        obtain ⟨hp2, hx⟩ := List.mem_filter.1 hp
        have e : y = k := by simpa using hx
        rw [if_pos (h.first (x, y) hp2), ← e]
        simpa using hp2
    · intro h1
      by_cases ha : a ∈ r.ms
      · rw [if_pos ha] at h1
        exact .inr (List.mem_map.2 ⟨(a, k), List.mem_filter.2 ⟨by simpa using h1, by simp⟩, rfl⟩)
      · rw [if_neg ha] at h1
        have : a = k := by simpa using h1
        subst this
        exact absurd hk ha
  · rw [if_neg hk]
    refine ⟨by simp, fun a => ?_⟩
    rw [List.mem_singleton, ← h.pairB]
    unfold RS.pair
    by_cases ha : a ∈ r.ms
    · rw [if_pos ha]
      constructor
      · rintro rfl; exact absurd ha hk
      · intro h1
        have h2 := (h.pair a k ha).1 (by simpa using h1)
        rcases hi.known a k h2 with h3 | h3
        · exact h3
        · exact absurd ((h.known k).2 h3) hk
    · rw [if_neg ha]
      simp
end
end Go.Proofs.Ytkbjfmlfmmmknaa
