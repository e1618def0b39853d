/- One lineage, or two, and the slices at hand: what holds on the way through a statement; each call, said of that. -/
import Derived.Test.YtkbjfmlfmmmknaaL2
namespace Go.Proofs.Ytkbjfmlfmmmknaa
open Go.RowKit Go.Maps Go.WideMaps Go.ChangeMaps Go.Sort

/-- The slices at hand: each reads as it should, and lies in no lineage's memory. -/
def Held (w : World) (F : Nat → Prop) (held : List (Value × List ByteArray)) : Prop := ∀ p ∈ held, SL w p.1 p.2 ∧ ∀ g, p.1.ownBlock = some g → ¬ F g

/-- One lineage at x; the slices at hand; nothing that lay in w0 has turned. -/
def Env1 (w0 w : World) (n x : Nat) (st : St) (held : List (Value × List ByteArray)) : Prop :=
  ∃ F, Lin w x F n st ∧ (∀ i, F i → w0.heap.size ≤ i) ∧ Below w0.heap.size w0 w ∧ Held w F held

/-- Two lineages, at x and at y. -/
def Env2 (w0 w : World) (n x : Nat) (st : St) (y : Nat) (st' : St) (held : List (Value × List ByteArray)) : Prop :=
  ∃ F G, Lin w x F n st ∧ Lin w y G n st' ∧ (∀ i, F i → ¬ G i) ∧ (∀ i, F i → w0.heap.size ≤ i) ∧ (∀ i, G i → w0.heap.size ≤ i) ∧ Below w0.heap.size w0 w ∧ Held w F held ∧ Held w G held

theorem Held.turn {w w' : World} {F F' G : Nat → Prop} {held : List (Value × List ByteArray)} (h : Held w F held) (hG : Held w G held) (ht : Turn G w w') (hF : ∀ i, F' i → F i ∨ w.heap.size ≤ i) : Held w' F' held := fun p hp => by
  obtain ⟨h1, h2⟩ := h p hp
  refine ⟨h1.turn ht (fun g hg => (hG p hp).2 g hg), fun g hg hf => ?_⟩
  rcases hF g hf with h3 | h3
  · exact h2 g hg h3
  · have := h1.lt g hg; omega

section
variable {w0 w w' : World} {n x y : Nat} {st st' : St} {held : List (Value × List ByteArray)}

theorem Env1.below (h : Env1 w0 w n x st held) (hb : Below w.heap.size w w') : Env1 w0 w' n x st held := by
  obtain ⟨F, h1, h2, h3, h4⟩ := h
  have ht : Turn (fun _ => False) w w' := Turn.of_below hb
  exact ⟨F, h1.turn ht (fun _ _ h => h), h2, h3.trans (hb.mono h3.size), fun p hp => ⟨(h4 p hp).1.turn ht (fun _ _ h => h), (h4 p hp).2⟩⟩
theorem Env2.below (h : Env2 w0 w n x st y st' held) (hb : Below w.heap.size w w') : Env2 w0 w' n x st y st' held := by
  obtain ⟨F, G, h1, h1', hd, h2, h2', h3, h4, h4'⟩ := h
  have ht : Turn (fun _ => False) w w' := Turn.of_below hb
  exact ⟨F, G, h1.turn ht (fun _ _ h => h), h1'.turn ht (fun _ _ h => h), hd, h2, h2', h3.trans (hb.mono h3.size), fun p hp => ⟨(h4 p hp).1.turn ht (fun _ _ h => h), (h4 p hp).2⟩, fun p hp => ⟨(h4' p hp).1.turn ht (fun _ _ h => h), (h4' p hp).2⟩⟩
theorem Env2.swap (h : Env2 w0 w n x st y st' held) : Env2 w0 w n y st' x st held := by
  obtain ⟨F, G, h1, h1', hd, h2, h2', h3, h4, h4'⟩ := h
  exact ⟨G, F, h1', h1, fun i hi hf => hd i hf hi, h2', h2, h3, h4', h4⟩
theorem Env1.mono {n' : Nat} (h : Env1 w0 w n x st held) (hn : n ≤ n') : Env1 w0 w n' x st held := by
  obtain ⟨F, h1, h2⟩ := h; exact ⟨F, h1.mono hn, h2⟩
theorem Env2.mono {n' : Nat} (h : Env2 w0 w n x st y st' held) (hn : n ≤ n') : Env2 w0 w n' x st y st' held := by
  obtain ⟨F, G, h1, h1', h2⟩ := h; exact ⟨F, G, h1.mono hn, h1'.mono hn, h2⟩
theorem Env1.old (h : Env1 w0 w n x st held) : Below w0.heap.size w0 w := by obtain ⟨_, _, _, h, _⟩ := h; exact h
theorem Env2.old (h : Env2 w0 w n x st y st' held) : Below w0.heap.size w0 w := by obtain ⟨_, _, _, _, _, _, _, h, _⟩ := h; exact h
theorem Env1.sl (h : Env1 w0 w n x st held) {p : Value × List ByteArray} (hp : p ∈ held) : SL w p.1 p.2 := by obtain ⟨_, _, _, _, h⟩ := h; exact (h p hp).1
theorem Env2.sl (h : Env2 w0 w n x st y st' held) {p : Value × List ByteArray} (hp : p ∈ held) : SL w p.1 p.2 := by obtain ⟨_, _, _, _, _, _, _, _, h, _⟩ := h; exact (h p hp).1
theorem Env1.less {held' : List (Value × List ByteArray)} (h : Env1 w0 w n x st held) (hs : ∀ p ∈ held', p ∈ held) : Env1 w0 w n x st held' := by
  obtain ⟨F, h1, h2, h3, h4⟩ := h; exact ⟨F, h1, h2, h3, fun p hp => h4 p (hs p hp)⟩
theorem Env2.less {held' : List (Value × List ByteArray)} (h : Env2 w0 w n x st y st' held) (hs : ∀ p ∈ held', p ∈ held) : Env2 w0 w n x st y st' held' := by
  obtain ⟨F, G, h1, h1', hd, h2, h2', h3, h4, h4'⟩ := h; exact ⟨F, G, h1, h1', hd, h2, h2', h3, fun p hp => h4 p (hs p hp), fun p hp => h4' p (hs p hp)⟩

/-! ### Follow -/
def EFollow1 (w0 : World) (n x : Nat) (st : St) (held : List (Value × List ByteArray)) (e : Ed) (en : Ending) (w' : World) : Prop := en = .returned (.int .i64 (err st e)) ∧ Env1 w0 w' (n + 4) x (step st e) held
def EFollow2 (w0 : World) (n x : Nat) (st : St) (y : Nat) (st' : St) (held : List (Value × List ByteArray)) (e : Ed) (en : Ending) (w' : World) : Prop := en = .returned (.int .i64 (err st e)) ∧ Env2 w0 w' (n + 4) x (step st e) y st' held

theorem Env1.follow (h : Env1 w0 w n x st held) (hn : n < 1000000) (e : EdC) (he : e.ok) : Calls Try.prog 14 #[.pointer (some ⟨x, 0, none⟩), e.val] w (EFollow1 w0 n x st held e.ed) := by
  obtain ⟨F, h1, h2, h3, h4⟩ := h
  refine (follow_val w x n F st h1 hn e he).mono ?_
  rintro en w' ⟨rfl, F', hL, hT, hF⟩
  have hF' : ∀ i, F' i → w0.heap.size ≤ i := fun i hi => (hF i hi).elim (h2 i) (fun h => Nat.le_trans h3.size h)
  exact ⟨rfl, F', hL, hF', h3.trans (hT.below h2 h3.size), h4.turn h4 hT hF⟩
theorem Env2.follow (h : Env2 w0 w n x st y st' held) (hn : n < 1000000) (e : EdC) (he : e.ok) : Calls Try.prog 14 #[.pointer (some ⟨x, 0, none⟩), e.val] w (EFollow2 w0 n x st y st' held e.ed) := by
  obtain ⟨F, G, h1, h1', hd, h2, h2', h3, h4, h4'⟩ := h
  refine (follow_val w x n F st h1 hn e he).mono ?_
  rintro en w' ⟨rfl, F', hL, hT, hF⟩
  have hF' : ∀ i, F' i → w0.heap.size ≤ i := fun i hi => (hF i hi).elim (h2 i) (fun h => Nat.le_trans h3.size h)
  refine ⟨rfl, F', G, hL, (h1'.turn hT (fun i hg hf => hd i hf hg)).mono (by omega), fun i hi hg => (hF i hi).elim (fun hf => hd i hf hg) (fun h => by have := h1'.lt i hg; omega), hF', h2', h3.trans (hT.below h2 h3.size), h4.turn h4 hT hF, h4'.turn h4 hT (fun i hi => .inl hi)⟩

/-! ### Now, Then, Gone -/
def EList1 (w0 : World) (n x : Nat) (st : St) (held : List (Value × List ByteArray)) (M : Key → Prop) (en : Ending) (w' : World) : Prop :=
  ∃ (v : Value) (ks : List Key), en = .returned v ∧ Env1 w0 w' n x st ((v, ks.map toB) :: held) ∧ ks.Pairwise (· < ·) ∧ ∀ k, k ∈ ks ↔ M k
def EList2 (w0 : World) (n x : Nat) (st : St) (y : Nat) (st' : St) (held : List (Value × List ByteArray)) (M : Key → Prop) (en : Ending) (w' : World) : Prop :=
  ∃ (v : Value) (ks : List Key), en = .returned v ∧ Env2 w0 w' n x st y st' ((v, ks.map toB) :: held) ∧ ks.Pairwise (· < ·) ∧ ∀ k, k ∈ ks ↔ M k

theorem Env1.list {M : Key → Prop} {en : Ending} (h : Env1 w0 w n x st held) (hl : ListPost w M en w') : EList1 w0 n x st held M en w' := by
  obtain ⟨v, ks, rfl, hs, hp, hm, hb, hg⟩ := hl
  have ht : Turn (fun _ => False) w w' := Turn.of_below hb
  obtain ⟨F, h1, h2, h3, h4⟩ := h
  refine ⟨v, ks, rfl, ⟨F, h1.turn ht (fun _ _ h => h), h2, h3.trans (hb.mono h3.size), fun p hp => ?_⟩, hp, hm⟩
  rcases List.mem_cons.1 hp with rfl | hp
  · exact ⟨hs, fun g hg' hf => by have := hg g hg'; have := h1.lt g hf; omega⟩
  · exact ⟨(h4 p hp).1.turn ht (fun _ _ h => h), (h4 p hp).2⟩
theorem Env2.list {M : Key → Prop} {en : Ending} (h : Env2 w0 w n x st y st' held) (hl : ListPost w M en w') : EList2 w0 n x st y st' held M en w' := by
  obtain ⟨v, ks, rfl, hs, hp, hm, hb, hg⟩ := hl
  have ht : Turn (fun _ => False) w w' := Turn.of_below hb
  obtain ⟨F, G, h1, h1', hd, h2, h2', h3, h4, h4'⟩ := h
  refine ⟨v, ks, rfl, ⟨F, G, h1.turn ht (fun _ _ h => h), h1'.turn ht (fun _ _ h => h), hd, h2, h2', h3.trans (hb.mono h3.size), fun p hp => ?_, fun p hp => ?_⟩, hp, hm⟩
  · rcases List.mem_cons.1 hp with rfl | hp
    · exact ⟨hs, fun g hg' hf => by have := hg g hg'; have := h1.lt g hf; omega⟩
    · exact ⟨(h4 p hp).1.turn ht (fun _ _ h => h), (h4 p hp).2⟩
  · rcases List.mem_cons.1 hp with rfl | hp
    · exact ⟨hs, fun g hg' hf => by have := hg g hg'; have := h1'.lt g hf; omega⟩
    · exact ⟨(h4' p hp).1.turn ht (fun _ _ h => h), (h4' p hp).2⟩

theorem Env1.now (h : Env1 w0 w n x st held) (hn : n < 900000) (s : ByteArray) (hs : s.size ≤ maxLen) : Calls Try.prog 17 #[.pointer (some ⟨x, 0, none⟩), .string s] w (EList1 w0 n x st held fun k => ofS st s.data.toList k = true) := by
  have hh := h
  obtain ⟨F, h1, _⟩ := hh
  exact (now_any w x n F st s h1 hn hs).mono fun en w' hl => h.list hl
theorem Env1.then_ (h : Env1 w0 w n x st held) (hn : n < 900000) (s : ByteArray) (hs : s.size ≤ maxLen) : Calls Try.prog 19 #[.pointer (some ⟨x, 0, none⟩), .string s] w (EList1 w0 n x st held fun k => ofS st k s.data.toList = true) := by
  have hh := h
  obtain ⟨F, h1, _⟩ := hh
  exact (then_any sortC w x n F st s h1 hn hs).mono fun en w' hl => h.list hl
theorem Env2.now (h : Env2 w0 w n x st y st' held) (hn : n < 900000) (s : ByteArray) (hs : s.size ≤ maxLen) : Calls Try.prog 17 #[.pointer (some ⟨x, 0, none⟩), .string s] w (EList2 w0 n x st y st' held fun k => ofS st s.data.toList k = true) := by
  have hh := h
  obtain ⟨F, G, h1, _⟩ := hh
  exact (now_any w x n F st s h1 hn hs).mono fun en w' hl => h.list hl
theorem Env2.then_ (h : Env2 w0 w n x st y st' held) (hn : n < 900000) (s : ByteArray) (hs : s.size ≤ maxLen) : Calls Try.prog 19 #[.pointer (some ⟨x, 0, none⟩), .string s] w (EList2 w0 n x st y st' held fun k => ofS st k s.data.toList = true) := by
  have hh := h
  obtain ⟨F, G, h1, _⟩ := hh
  exact (then_any sortC w x n F st s h1 hn hs).mono fun en w' hl => h.list hl

def EGone1 (w0 : World) (n x : Nat) (st : St) (held : List (Value × List ByteArray)) (S : Key → Bool) (en : Ending) (w' : World) : Prop := ∃ b, en = .returned (.bool b) ∧ (b = true ↔ ∀ k, S k = false) ∧ Env1 w0 w' n x st held
theorem Env1.gone (h : Env1 w0 w n x st held) (s : ByteArray) (hs : s.size ≤ maxLen) : Calls Try.prog 21 #[.pointer (some ⟨x, 0, none⟩), .string s] w (EGone1 w0 n x st held (ofS st s.data.toList)) := by
  have hh := h
  obtain ⟨F, h1, _⟩ := hh
  exact (gone_any w x n F st s h1 hs).mono fun en w' ⟨b, he, hb, hB⟩ => ⟨b, he, hb, h.below hB⟩

/-! ### followed, New -/
def EStart (w : World) (n : Nat) (st : St) (en : Ending) (w' : World) : Prop := ∃ x, en = .returned (.pointer (some ⟨x, 0, none⟩)) ∧ Env1 w w' n x st []
theorem start_followed (w w1 : World) (hb : Below w.heap.size w w1) (v : Value) (es : List EdC) (h : Eds w v es) (hl : es.length ≤ 1000) : Calls Try.prog 23 #[v] w1 (EStart w (4 * es.length) (runS (fun _ => none) es)) := by
  refine (followed_any w1 v es (h.turn hb) hl).mono ?_
  rintro en w' ⟨x, F, rfl, hL, hB, hF⟩
  exact ⟨x, rfl, F, hL, fun i hi => Nat.le_trans hb.size (hF i hi), hb.trans (hB.mono hb.size), fun p hp => by cases hp⟩

def EStart2 (w0 : World) (n x : Nat) (st : St) (st' : St) (held : List (Value × List ByteArray)) (en : Ending) (w' : World) : Prop := ∃ y, en = .returned (.pointer (some ⟨y, 0, none⟩)) ∧ Env2 w0 w' n x st y st' held
theorem Env1.second {en : Ending} {F' : Nat → Prop} (h : Env1 w0 w n x st held) (hL : Lin w' y F' n st') (hB : Below w.heap.size w w') (hF : ∀ i, F' i → w.heap.size ≤ i) (he : en = .returned (.pointer (some ⟨y, 0, none⟩))) : EStart2 w0 n x st st' held en w' := by
  have ht : Turn (fun _ => False) w w' := Turn.of_below hB
  obtain ⟨F, h1, h2, h3, h4⟩ := h
  refine ⟨y, he, F, F', h1.turn ht (fun _ _ h => h), hL, fun i hi hf => by have := h1.lt i hi; have := hF i hf; omega, h2, fun i hi => Nat.le_trans h3.size (hF i hi), h3.trans (hB.mono h3.size), fun p hp => ⟨(h4 p hp).1.turn ht (fun _ _ h => h), (h4 p hp).2⟩,
    fun p hp => ⟨(h4 p hp).1.turn ht (fun _ _ h => h), fun g hg hf => by have := (h4 p hp).1.lt g hg; have := hF g hf; omega⟩⟩
theorem Env1.second_followed (h : Env1 w0 w n x st held) (v : Value) (es : List EdC) (hv : Eds w0 v es) (hl : es.length ≤ 1000) (hn : 4 * es.length ≤ n) : Calls Try.prog 23 #[v] w (EStart2 w0 n x st (runS (fun _ => none) es) held) := by
  have hv' : Eds w v es := hv.turn h.old
  refine (followed_any w v es hv' hl).mono ?_
  rintro en w' ⟨y, F', rfl, hL, hB, hF⟩
  exact h.second (hL.mono hn) hB hF rfl
theorem Env1.second_new (h : Env1 w0 w n x st held) : Calls Try.prog 12 #[] w (EStart2 w0 n x st (fun _ => none) held) := by
  refine (new_any w).mono ?_
  rintro en w' ⟨y, F', rfl, hL, hB, hF⟩
  exact h.second (hL.mono (Nat.zero_le _)) hB hF rfl

/-! ### literals -/
theorem SL_lit (w : World) (ss : List ByteArray) (hl : ss.length ≤ 1000000) : SL (w.alloc (.cells (ss.map Value.string).toArray 9)) (.slice (some ⟨w.heap.size, 0, none⟩) ss.length ss.length) ss :=
  ⟨hl, .inr ⟨_, _, rfl, by simp, fun i hi => by simp [hi]⟩⟩
theorem Env1.lit (h : Env1 w0 w n x st held) (ss : List ByteArray) (hl : ss.length ≤ 1000000) : Env1 w0 (w.alloc (.cells (ss.map Value.string).toArray 9)) n x st ((.slice (some ⟨w.heap.size, 0, none⟩) ss.length ss.length, ss) :: held) := by
  obtain ⟨F, h1, h2, h3, h4⟩ := h
  have hb : Below w.heap.size w (w.alloc (.cells (ss.map Value.string).toArray 9)) := (Below.refl _ _).alloc (Nat.le_refl _) _
  have ht : Turn (fun _ => False) w (w.alloc (.cells (ss.map Value.string).toArray 9)) := Turn.of_below hb
  refine ⟨F, h1.turn ht (fun _ _ h => h), h2, h3.trans (hb.mono h3.size), fun p hp => ?_⟩
  rcases List.mem_cons.1 hp with rfl | hp
  · refine ⟨SL_lit w ss hl, fun g hg hf => ?_⟩
    have : w.heap.size = g := by simpa [Value.ownBlock] using hg
    have := h1.lt g hf
    omega
  · exact ⟨(h4 p hp).1.turn ht (fun _ _ h => h), (h4 p hp).2⟩

/-! ### Same, In, split, join, drop -/
def ESame1 (w0 : World) (n x : Nat) (st : St) (held : List (Value × List ByteArray)) (p : Prop) (en : Ending) (w' : World) : Prop := ∃ b, en = .returned (.bool b) ∧ (b = true ↔ p) ∧ Env1 w0 w' n x st held
def ESame2 (w0 : World) (n x : Nat) (st : St) (y : Nat) (st' : St) (held : List (Value × List ByteArray)) (p : Prop) (en : Ending) (w' : World) : Prop := ∃ b, en = .returned (.bool b) ∧ (b = true ↔ p) ∧ Env2 w0 w' n x st y st' held
theorem below_drewN (w : World) (m : Nat) : Below w.heap.size w (w.drewN m) := ⟨rfl, rfl, rfl, Nat.le_refl _, fun _ _ => rfl⟩
theorem Env1.same {u v : Value} {xs ys : List ByteArray} (h : Env1 w0 w n x st held) (hu : (u, xs) ∈ held) (hv : (v, ys) ∈ held) : Calls Try.prog 16 #[u, v] w (ESame1 w0 n x st held (xs = ys)) :=
  (same_any w u v xs ys (h.sl hu) (h.sl hv)).mono fun en w' ⟨b, he, hb, m, hw⟩ => ⟨b, he, hb, by subst hw; exact h.below (below_drewN w m)⟩
theorem Env2.same {u v : Value} {xs ys : List ByteArray} (h : Env2 w0 w n x st y st' held) (hu : (u, xs) ∈ held) (hv : (v, ys) ∈ held) : Calls Try.prog 16 #[u, v] w (ESame2 w0 n x st y st' held (xs = ys)) :=
  (same_any w u v xs ys (h.sl hu) (h.sl hv)).mono fun en w' ⟨b, he, hb, m, hw⟩ => ⟨b, he, hb, by subst hw; exact h.below (below_drewN w m)⟩
theorem Env1.in_ {u : Value} {xs : List ByteArray} (h : Env1 w0 w n x st held) (hu : (u, xs) ∈ held) (s : ByteArray) : Calls Try.prog 24 #[u, .string s] w (ESame1 w0 n x st held (s ∈ xs)) :=
  (in_any w u xs s (h.sl hu)).mono fun en w' ⟨b, he, hb, hw⟩ => ⟨b, he, hb, by subst hw; exact h⟩
theorem Env2.in_ {u : Value} {xs : List ByteArray} (h : Env2 w0 w n x st y st' held) (hu : (u, xs) ∈ held) (s : ByteArray) : Calls Try.prog 24 #[u, .string s] w (ESame2 w0 n x st y st' held (s ∈ xs)) :=
  (in_any w u xs s (h.sl hu)).mono fun en w' ⟨b, he, hb, hw⟩ => ⟨b, he, hb, by subst hw; exact h⟩

def EEd1 (w0 : World) (n x : Nat) (st : St) (held : List (Value × List ByteArray)) (e : EdC) (en : Ending) (w' : World) : Prop := en = .returned e.val ∧ Env1 w0 w' n x st held
theorem Env1.split (h : Env1 w0 w n x st held) (a b : ByteArray) : Calls Try.prog 25 #[.string a, .string b] w (EEd1 w0 n x st held (edE 6 a b ⟨#[110]⟩)) := (split_any w a b).mono fun _ _ ⟨he, hb⟩ => ⟨he, h.below hb⟩
theorem Env1.join (h : Env1 w0 w n x st held) (a b : ByteArray) : Calls Try.prog 26 #[.string a, .string b] w (EEd1 w0 n x st held (edE 7 a b ⟨#[]⟩)) := (join_any w a b).mono fun _ _ ⟨he, hb⟩ => ⟨he, h.below hb⟩
theorem Env1.drop (h : Env1 w0 w n x st held) (a : ByteArray) : Calls Try.prog 27 #[.string a] w (EEd1 w0 n x st held (edE 5 a ⟨#[]⟩ ⟨#[]⟩)) := (drop_any w a).mono fun _ _ ⟨he, hb⟩ => ⟨he, h.below hb⟩
end

/-- Two strictly rising lists of the same members are one. -/
theorem eq_of_rising : ∀ {l₁ l₂ : List Key}, l₁.Pairwise (· < ·) → l₂.Pairwise (· < ·) → (∀ k, k ∈ l₁ ↔ k ∈ l₂) → l₁ = l₂
  | [], [], _, _, _ => rfl
  | [], b :: s, _, _, h => by have := (h b).2 (by simp); simp at this
  | a :: r, [], _, _, h => by have := (h a).1 (by simp); simp at this
  | a :: r, b :: s, h1, h2, h => by
    obtain ⟨a1, a2⟩ := List.pairwise_cons.1 h1
    obtain ⟨b1, b2⟩ := List.pairwise_cons.1 h2
    have hab : a = b := by
      rcases List.mem_cons.1 ((h a).1 (by simp)) with e | ha
      · exact e
      · rcases List.mem_cons.1 ((h b).2 (by simp)) with e | hb
        · exact e.symm
        · exact absurd (List.lt_trans (a1 b hb) (b1 a ha)) (List.lt_irrefl a)
    subst hab
    rw [eq_of_rising a2 b2 (fun p => ⟨fun hp => by
      rcases List.mem_cons.1 ((h p).1 (by simp [hp])) with e | hp'
      · have := a1 p hp
        rw [e] at this
        exact absurd this (List.lt_irrefl a)
      · exact hp', fun hp => by
      rcases List.mem_cons.1 ((h p).2 (by simp [hp])) with e | hp'
      · have := b1 p hp
        rw [e] at this
        exact absurd this (List.lt_irrefl a)
      · exact hp'⟩)]

end Go.Proofs.Ytkbjfmlfmmmknaa
