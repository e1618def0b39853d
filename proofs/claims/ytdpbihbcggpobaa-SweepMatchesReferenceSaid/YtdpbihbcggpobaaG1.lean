/- The walks of the small functions on numbers, points and bounds. -/
import Derived.Test.YtdpbihbcggpobaaRows
import Derived.Test.YtdpbihbcggpobaaPairs
import Derived.WalkKit
import Derived.WalkSpells
import Derived.WalkLawsBesides
import Derived.Lib.Hide
import Derived.Below
import Derived.Deep.QuietTactic
import Derived.BigQuiet
import Derived.Deep.DeepCutAuto
import Derived.Deep.CutBlock
import Derived.Deep.LoopGhost
import Derived.Deep.MidRow
import Derived.Outline
namespace Go.Proofs.Ytdpbihbcggpobaa
open Go.RowKit

def vI (n : Int) : Value := .int .i64 n

def IntIs (n : Int) (w : World) (e : Ending) (w' : World) : Prop := e = .returned (.int .i64 n) ∧ w = w'
def IntB (n : Int) (w : World) (e : Ending) (w' : World) : Prop := e = .returned (.int .i64 n) ∧ Below w.heap.size w w'
def BoolB (b : Bool) (w : World) (e : Ending) (w' : World) : Prop := e = .returned (.bool b) ∧ Below w.heap.size w w'

theorem nan_any (a : Int) (w : World) : Calls Try.prog 35 #[.int .i64 a] w fun e w' => e = .returned (.bool false) ∧ w = w' := by
  go_enter Try.func35, Try.ntmps35
  go_wp2_with fail
  go_ret
  exact ⟨by simp, rfl⟩

set_option maxHeartbeats 1000000 in
/-- cmp.Compare at int. -/
theorem cmp_any (a b : Int) (w : World) : Calls Try.prog 22 #[.int .i64 a, .int .i64 b] w (IntIs (cmpI a b) w) := by
  rcases cmpI_cases a b with ⟨h, e⟩ | ⟨h, e⟩ | ⟨h, e⟩
  · have b1 : decide (a < b) = true := by simpa using h
    rw [e]
    clear e h
    go_enter Try.func22, Try.ntmps22
    go_wp2_with (go_at_call 35; refine (nan_any _ _).mono ?_; rintro e w' ⟨rfl, rfl⟩)
    go_ret
    exact ⟨rfl, rfl⟩
  · subst h
    rw [e]
    clear e
    go_enter Try.func22, Try.ntmps22
    go_wp2_with (go_at_call 35; refine (nan_any _ _).mono ?_; rintro e w' ⟨rfl, rfl⟩)
    go_ret
    exact ⟨rfl, rfl⟩
  · have b1 : decide (a < b) = false := by simp; omega
    have b2 : decide (b < a) = true := by simpa using h
    rw [e]
    clear e h
    go_enter Try.func22, Try.ntmps22
    go_wp2_with (go_at_call 35; refine (nan_any _ _).mono ?_; rintro e w' ⟨rfl, rfl⟩)
    go_ret
    exact ⟨rfl, rfl⟩

def AggB (cs : List Int) (w : World) (e : Ending) (w' : World) : Prop := e = .returned (.agg (cs.map vI).toArray) ∧ Below w.heap.size w w'

theorem of_any (a b : Int) (w : World) : Calls Try.prog 18 #[.int .i64 a, .int .i64 b] w (AggB [min a b, max a b] w) := by
  rcases Int.lt_trichotomy a b with h | h | h
  · rw [show min a b = a by omega, show max a b = b by omega]
    go_enter Try.func18, Try.ntmps18
    go_wp2_with fail
    exact bodyPost_ret (v := .agg #[.int .i64 a, .int .i64 b]) (by simp [results, Try.results18, go_sem]) rfl ⟨rfl, (Below.refl _ _).alloc (Nat.le_refl _) _⟩
  · subst h
    rw [show min a a = a by omega, show max a a = a by omega]
    go_enter Try.func18, Try.ntmps18
    go_wp2_with fail
    exact bodyPost_ret (v := .agg #[.int .i64 a, .int .i64 a]) (by simp [results, Try.results18, go_sem]) rfl ⟨rfl, (Below.refl _ _).alloc (Nat.le_refl _) _⟩
  · rw [show min a b = b by omega, show max a b = a by omega]
    go_enter Try.func18, Try.ntmps18
    go_wp2_with fail
    exact bodyPost_ret (v := .agg #[.int .i64 b, .int .i64 a]) (by simp [results, Try.results18, go_sem]) rfl ⟨rfl, (Below.refl _ _).alloc (Nat.le_refl _) _⟩

theorem bounds_any (al ah bl bh : Int) (w : World) : Calls Try.prog 25 #[.agg #[.int .i64 al, .int .i64 ah], .agg #[.int .i64 bl, .int .i64 bh]] w (BoolB (decide (al ≤ bh) && decide (bl ≤ ah)) w) := by
  cases h1 : decide (al ≤ bh) with
  | false =>
    go_enter Try.func25, Try.ntmps25
    go_wp2_with fail
    go_ret
    exact ⟨rfl, ((Below.refl _ _).alloc (Nat.le_refl _) _).alloc (by simp) _⟩
  | true =>
    go_enter Try.func25, Try.ntmps25
    go_wp2_with fail
    go_ret
    exact ⟨by simp, ((Below.refl _ _).alloc (Nat.le_refl _) _).alloc (by simp) _⟩

theorem to_any (a b : Pt) (w : World) (h1 : nearB a = true) (h2 : nearB b = true) : Calls Try.prog 42 #[.agg #[.int .i64 a.1, .int .i64 a.2], .agg #[.int .i64 b.1, .int .i64 b.2]] w (AggB [b.1 - a.1, b.2 - a.2] w) := by
  unfold nearB at h1 h2
  simp only [Bool.and_eq_true, decide_eq_true_iff] at h1 h2
  obtain ⟨⟨⟨p1, p2⟩, p3⟩, p4⟩ := h1
  obtain ⟨⟨⟨q1, q2⟩, q3⟩, q4⟩ := h2
  obtain ⟨ax, ay⟩ := a
  obtain ⟨bx, bxy⟩ := b
  dsimp only at *
  go_enter Try.func42, Try.ntmps42
  go_wp2_with fail
  exact bodyPost_ret (v := .agg #[.int .i64 (bx - ax), .int .i64 (bxy - ay)]) (by simp [results, Try.results42, go_sem]) rfl ⟨rfl, (((Below.refl _ _).alloc (Nat.le_refl _) _).alloc (by simp) _).alloc (by simp; omega) _⟩

/-- The cross product of two vectors that are not long. -/
theorem cross_any (vx vy ux uy : Int) (w : World) (h1 : -4194304 ≤ vx ∧ vx ≤ 4194304) (h2 : -4194304 ≤ vy ∧ vy ≤ 4194304) (h3 : -4194304 ≤ ux ∧ ux ≤ 4194304) (h4 : -4194304 ≤ uy ∧ uy ≤ 4194304) :
    Calls Try.prog 43 #[.agg #[.int .i64 vx, .int .i64 vy], .agg #[.int .i64 ux, .int .i64 uy]] w (IntB (vx * uy - vy * ux) w) := by
  have bd : ∀ x y : Int, -4194304 ≤ x ∧ x ≤ 4194304 → -4194304 ≤ y ∧ y ≤ 4194304 → -17592186044416 ≤ x * y ∧ x * y ≤ 17592186044416 := by
    intro x y hx hy
    have h1 : (x + 4194304) * (y + 4194304) ≥ 0 := Int.mul_nonneg (by omega) (by omega)
    have h2 : (4194304 - x) * (4194304 - y) ≥ 0 := Int.mul_nonneg (by omega) (by omega)
    have h3 : (x + 4194304) * (4194304 - y) ≥ 0 := Int.mul_nonneg (by omega) (by omega)
    have h4 : (4194304 - x) * (y + 4194304) ≥ 0 := Int.mul_nonneg (by omega) (by omega)
    simp only [Int.add_mul, Int.mul_add, Int.sub_mul, Int.mul_sub] at h1 h2 h3 h4
    omega
  obtain ⟨e1, e2⟩ := bd vx uy h1 h4
  obtain ⟨e3, e4⟩ := bd vy ux h2 h3
  clear bd
  have HI : Hid (IntKind.i64.wrap (vx * uy) = vx * uy ∧ IntKind.i64.wrap (vy * ux) = vy * ux) := Lib.hid ⟨IntWalk.i64_in _ (by omega), IntWalk.i64_in _ (by omega)⟩
  go_enter Try.func43, Try.ntmps43
  go_wp2_with fail
  go_ret
  exact ⟨rfl, ((Below.refl _ _).alloc (Nat.le_refl _) _).alloc (by simp) _⟩

end Go.Proofs.Ytdpbihbcggpobaa
