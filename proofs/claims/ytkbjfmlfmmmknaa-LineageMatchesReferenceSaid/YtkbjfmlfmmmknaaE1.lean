/- A lineage and the reference's: what holds on the way through the statement that compares them; each call, said of that. -/
import Derived.Test.YtkbjfmlfmmmknaaM8
namespace Go.Proofs.Ytkbjfmlfmmmknaa
open Go.RowKit Go.Maps Go.WideMaps Go.ChangeMaps Go.Sort

/-- One lineage at x, the reference's at y; the slices at hand; nothing that lay in w0 has turned. -/
def EnvR (w0 w : World) (n x : Nat) (st : St) (y : Nat) (r : RS) (held : List (Value × List ByteArray)) : Prop :=
  ∃ F vp vm, Lin w x F n st ∧ (∀ i, F i → w0.heap.size ≤ i) ∧ Below w0.heap.size w0 w ∧ Held w F held ∧ RLin w y vp vm r ∧ ¬ F y ∧ w0.heap.size ≤ y ∧
    (∀ g, vp.ownBlock = some g → ¬ F g) ∧ (∀ g, vm.ownBlock = some g → ¬ F g) ∧ ∀ p ∈ held, ∀ g, p.1.ownBlock = some g → g ≠ y

section
variable {w0 w w' : World} {n x y : Nat} {st : St} {r : RS} {held : List (Value × List ByteArray)}

theorem EnvR.below (h : EnvR w0 w n x st y r held) (hb : Below w.heap.size w w') : EnvR w0 w' n x st y r held := by
  have ht : Turn (fun _ => False) w w' := Turn.of_below hb
  obtain ⟨F, vp, vm, h1, h2, h3, h4, h5, h6⟩ := h
  exact ⟨F, vp, vm, h1.turn ht (fun _ _ h => h), h2, h3.trans (hb.mono h3.size), fun p hp => ⟨(h4 p hp).1.turn ht (fun _ _ h => h), (h4 p hp).2⟩, h5.below hb, h6⟩
theorem EnvR.old (h : EnvR w0 w n x st y r held) : Below w0.heap.size w0 w := by obtain ⟨_, _, _, _, _, h, _⟩ := h; exact h
theorem EnvR.sl (h : EnvR w0 w n x st y r held) {p : Value × List ByteArray} (hp : p ∈ held) : SL w p.1 p.2 := by obtain ⟨_, _, _, _, _, _, h, _⟩ := h; exact (h p hp).1
theorem EnvR.less {held' : List (Value × List ByteArray)} (h : EnvR w0 w n x st y r held) (hs : ∀ p ∈ held', p ∈ held) : EnvR w0 w n x st y r held' := by
  obtain ⟨F, vp, vm, h1, h2, h3, h4, h5, h6, h7, h8, h9, h10⟩ := h
  exact ⟨F, vp, vm, h1, h2, h3, fun p hp => h4 p (hs p hp), h5, h6, h7, h8, h9, fun p hp => h10 p (hs p hp)⟩
theorem EnvR.mono {n' : Nat} (h : EnvR w0 w n x st y r held) (hn : n ≤ n') : EnvR w0 w n' x st y r held := by
  obtain ⟨F, vp, vm, h1, h2⟩ := h; exact ⟨F, vp, vm, h1.mono hn, h2⟩

/-- One more slice at hand: it lies behind all that was there. -/
theorem EnvR.hold (h : EnvR w0 w n x st y r held) (hb : Below w.heap.size w w') {v : Value} {ss : List ByteArray} (hs : SL w' v ss) (hf : ∀ g, v.ownBlock = some g → w.heap.size ≤ g) : EnvR w0 w' n x st y r ((v, ss) :: held) := by
  have hl := h
  obtain ⟨F0, _, _, hl1, _, _, _, hl5, _⟩ := hl
  obtain ⟨F, vp, vm, h1, h2, h3, h4, h5, h6, h7, h8, h9, h10⟩ := h
  have ht : Turn (fun _ => False) w w' := Turn.of_below hb
  have hy : y < w.heap.size := YAt.lt (a := vp) (b := vm) h5.yc
  refine ⟨F, vp, vm, h1.turn ht (fun _ _ h => h), h2, h3.trans (hb.mono h3.size), fun p hp => ?_, h5.below hb, h6, h7, h8, h9, fun p hp => ?_⟩
  · rcases List.mem_cons.1 hp with rfl | hp
    · exact ⟨hs, fun g hg hF => by have := hf g hg; have := h1.lt g hF; omega⟩
    · exact ⟨(h4 p hp).1.turn ht (fun _ _ h => h), (h4 p hp).2⟩
  · rcases List.mem_cons.1 hp with rfl | hp
    · exact fun g hg => by have := hf g hg; omega
    · exact h10 p hp

/-! ### Follow -/
def RFol (w0 : World) (n x : Nat) (st : St) (y : Nat) (r : RS) (held : List (Value × List ByteArray)) (c : Int) (en : Ending) (w' : World) : Prop := en = .returned (.int .i64 c) ∧ EnvR w0 w' n x st y r held
theorem EnvR.follow (h : EnvR w0 w n x st y r held) (hn : n < 1000000) (e : EdC) (he : e.ok) : Calls Try.prog 14 #[.pointer (some ⟨x, 0, none⟩), e.val] w (RFol w0 (n + 4) x (step st e.ed) y r held (err st e.ed)) := by
  obtain ⟨F, vp, vm, h1, h2, h3, h4, h5, h6, h7, h8, h9, h10⟩ := h
  refine (follow_val w x n F st h1 hn e he).mono ?_
  rintro en w' ⟨rfl, F', hL, hT, hF⟩
  have hF' : ∀ i, F' i → w0.heap.size ≤ i := fun i hi => (hF i hi).elim (h2 i) (fun h => Nat.le_trans h3.size h)
  have hy : y < w.heap.size := YAt.lt (a := vp) (b := vm) h5.yc
  have hp := h5.p.lt
  have hm := h5.m.lt
  exact ⟨rfl, F', vp, vm, hL, hF', h3.trans (hT.below h2 h3.size), h4.turn h4 hT hF, h5.turn hT h6 h8 h9, fun hi => (hF y hi).elim h6 (fun h => by omega), h7,
    fun g hg hi => (hF g hi).elim (h8 g hg) (fun h => by have := hp g hg; omega), fun g hg hi => (hF g hi).elim (h9 g hg) (fun h => by have := hm g hg; omega), h10⟩
theorem EnvR.rfollow (h : EnvR w0 w n x st y r held) (hl1 : r.ps.length ≤ 400000) (hl2 : r.ms.length ≤ 400000) (e : EdC) : Calls Try.prog 15 #[.pointer (some ⟨y, 0, none⟩), e.val] w (RFol w0 n x st y (r.step e.ed) held (r.err e.ed)) := by
  obtain ⟨F, vp, vm, h1, h2, h3, h4, h5, h6, h7, h8, h9, h10⟩ := h
  refine (rfollow_any w y vp vm r h5 hl1 hl2 e).mono ?_
  rintro en w' ⟨rfl, vp', vm', k1, k2, k3, k4⟩
  have hlt := h1.lt
  have fresh : ∀ v v' : Value, (∀ g, v.ownBlock = some g → ¬ F g) → Fresh w v v' → ∀ g, v'.ownBlock = some g → ¬ F g := fun v v' hv hfr g hg hF => by
    rcases hfr with rfl | hfr
    · exact hv g hg hF
    · have := hfr g hg; have := hlt g hF; omega
  exact ⟨rfl, F, vp', vm', h1.turn k2 (fun i hi e => h6 (e ▸ hi)), h2, h3.trans (k2.below (fun i hi => by rw [hi]; exact h7) h3.size),
    fun p hp => ⟨(h4 p hp).1.turn k2 (h10 p hp), (h4 p hp).2⟩, k1, h6, h7, fresh vp vp' h8 k3, fresh vm vm' h9 k4, h10⟩

/-! ### Now, Then, Gone -/
def RLst (w0 : World) (n x : Nat) (st : St) (y : Nat) (r : RS) (held : List (Value × List ByteArray)) (ks : List Key) (en : Ending) (w' : World) : Prop :=
  ∃ v, en = .returned v ∧ EnvR w0 w' n x st y r ((v, ks.map toB) :: held)
theorem EnvR.list {M : Key → Prop} {en : Ending} (h : EnvR w0 w n x st y r held) (hl : ListPost w M en w') {ks : List Key} (hp : ks.Pairwise (· < ·)) (hm : ∀ k, k ∈ ks ↔ M k) : RLst w0 n x st y r held ks en w' := by
  obtain ⟨v, ks', rfl, hs, hp', hm', hb, hg⟩ := hl
  obtain rfl : ks' = ks := eq_of_rising hp' hp (fun k => (hm' k).trans (hm k).symm)
  exact ⟨v, rfl, h.hold hb hs hg⟩
theorem EnvR.now (h : EnvR w0 w n x st y r held) (hs : Sim st r) (hn : n < 900000) (s : ByteArray) (hl : s.size ≤ maxLen) : Calls Try.prog 17 #[.pointer (some ⟨x, 0, none⟩), .string s] w (RLst w0 n x st y r held (r.now s.data.toList)) := by
  have hh := h
  obtain ⟨F, vp, vm, h1, _⟩ := hh
  obtain ⟨p1, p2⟩ := hs.now s.data.toList
  exact (now_any w x n F st s h1 hn hl).mono fun en w' k => h.list k p1 p2
theorem EnvR.then_ (h : EnvR w0 w n x st y r held) (hs : Sim st r) (hi : Inv st) (hn : n < 900000) (s : ByteArray) (hl : s.size ≤ maxLen) : Calls Try.prog 19 #[.pointer (some ⟨x, 0, none⟩), .string s] w (RLst w0 n x st y r held (r.then_ s.data.toList)) := by
  have hh := h
  obtain ⟨F, vp, vm, h1, _⟩ := hh
  obtain ⟨p1, p2⟩ := hs.then_ hi s.data.toList
  exact (then_any sortC w x n F st s h1 hn hl).mono fun en w' k => h.list k p1 p2
theorem EnvR.rlist {en : Ending} {ks : List Key} (h : EnvR w0 w n x st y r held) (hl : RListPost w ks en w') : RLst w0 n x st y r held ks en w' := by
  obtain ⟨v, rfl, hs, hb, hg⟩ := hl
  exact ⟨v, rfl, h.hold hb hs hg⟩
theorem EnvR.rnow (h : EnvR w0 w n x st y r held) (hl : r.ps.length ≤ 800000) (s : ByteArray) : Calls Try.prog 18 #[.pointer (some ⟨y, 0, none⟩), .string s] w (RLst w0 n x st y r held (r.now s.data.toList)) := by
  have hh := h
  obtain ⟨F, vp, vm, _, _, _, _, h5, _⟩ := hh
  exact (rnow_any w y vp vm r s h5 hl).mono fun en w' k => h.rlist k
theorem EnvR.rthen (h : EnvR w0 w n x st y r held) (hl : r.ps.length ≤ 800000) (s : ByteArray) : Calls Try.prog 20 #[.pointer (some ⟨y, 0, none⟩), .string s] w (RLst w0 n x st y r held (r.then_ s.data.toList)) := by
  have hh := h
  obtain ⟨F, vp, vm, _, _, _, _, h5, _⟩ := hh
  exact (rthen_any w y vp vm r s h5 hl).mono fun en w' k => h.rlist k

def RBol (w0 : World) (n x : Nat) (st : St) (y : Nat) (r : RS) (held : List (Value × List ByteArray)) (b : Bool) (en : Ending) (w' : World) : Prop := en = .returned (.bool b) ∧ EnvR w0 w' n x st y r held
theorem EnvR.gone (h : EnvR w0 w n x st y r held) (hs : Sim st r) (s : ByteArray) (hl : s.size ≤ maxLen) : Calls Try.prog 21 #[.pointer (some ⟨x, 0, none⟩), .string s] w (RBol w0 n x st y r held (r.now s.data.toList).isEmpty) := by
  have hh := h
  obtain ⟨F, vp, vm, h1, _⟩ := hh
  obtain ⟨p1, p2⟩ := hs.now s.data.toList
  refine (gone_any w x n F st s h1 hl).mono fun en w' ⟨b, he, hb, hB⟩ => ⟨?_, h.below hB⟩
  rw [he]
  have : b = (r.now s.data.toList).isEmpty := by
    rw [Bool.eq_iff_iff, hb, List.isEmpty_iff]
    constructor
    · intro hk
      cases hL : r.now s.data.toList with
      | nil => rfl
      | cons k L => have := (p2 k).1 (by rw [hL]; simp); rw [hk k] at this; cases this
    · intro hL k
      cases hk : ofS st s.data.toList k with
      | false => rfl
      | true => have := (p2 k).2 hk; rw [hL] at this; cases this
  rw [this]
theorem EnvR.rgone (h : EnvR w0 w n x st y r held) (hl : r.ps.length ≤ 800000) (s : ByteArray) : Calls Try.prog 22 #[.pointer (some ⟨y, 0, none⟩), .string s] w (RBol w0 n x st y r held (r.now s.data.toList).isEmpty) := by
  have hh := h
  obtain ⟨F, vp, vm, _, _, _, _, h5, _⟩ := hh
  exact (rgone_any w y vp vm r s h5 hl).mono fun en w' ⟨he, hb⟩ => ⟨he, h.below hb⟩
theorem EnvR.same {u v : Value} {xs : List ByteArray} (h : EnvR w0 w n x st y r held) (hu : (u, xs) ∈ held) (hv : (v, xs) ∈ held) : Calls Try.prog 16 #[u, v] w (RBol w0 n x st y r held true) :=
  (same_any w u v xs xs (h.sl hu) (h.sl hv)).mono fun en w' ⟨b, he, hb, m, hw⟩ => ⟨by rw [he, hb.2 rfl], by subst hw; exact h.below (below_drewN w m)⟩
end

theorem env_start (w0 w : World) (hb : Below w0.heap.size w0 w) (x : Nat) (F : Nat → Prop) (hL : Lin w x F 0 (fun _ => none)) (hF : ∀ i, F i → w0.heap.size ≤ i) {w' : World} {en : Ending} (h : RNewPost w en w') :
    ∃ y, en = .returned (.pointer (some ⟨y, 0, none⟩)) ∧ EnvR w0 w' 0 x (fun _ => none) y ⟨[], []⟩ [] := by
  obtain ⟨y, rfl, hy, hr, hb'⟩ := h
  have ht : Turn (fun _ => False) w w' := Turn.of_below hb'
  refine ⟨y, rfl, F, _, _, hL.turn ht (fun _ _ h => h), hF, hb.trans (hb'.mono hb.size), fun p hp => (by cases hp), hr, fun hi => by have := hL.lt y hi; omega, Nat.le_trans hb.size hy, fun g hg => by simp [Value.ownBlock] at hg, fun g hg => by simp [Value.ownBlock] at hg, fun p hp => (by cases hp)⟩

/-- How long the reference's lists are behind some edits. -/
def RBound (r : RS) (k : Nat) : Prop := r.ps.length ≤ 200 * k ∧ r.ms.length ≤ 2 * k
theorem RBound.step {r : RS} {k : Nat} (h : RBound r k) (hk : k ≤ 40) (e : Ed) : RBound (r.step e) (k + 1) := by
  have := RS.step_len r e
  unfold RBound at *
  omega

end Go.Proofs.Ytkbjfmlfmmmknaa
