/- The walks of the reference's small functions. -/
import Derived.Test.YtdpbihbcggpobaaF7
namespace Go.Proofs.Ytdpbihbcggpobaa
open Go.RowKit Go.Maps

theorem sign_any (n : Int) (w : World) : Calls Try.prog 64 #[.int .i64 n] w (IntB (cmpI n 0) w) := by
  unfold cmpI
  by_cases h1 : n < 0
  · rw [if_pos h1]
    have d1 : decide (n < 0) = true := decide_eq_true h1
    go_enter Try.func64, Try.ntmps64
    go_wp2_with fail
    go_ret
    exact ⟨rfl, Below.refl _ _⟩
  · rw [if_neg h1]
    have d1 : decide (n < 0) = false := decide_eq_false h1
    by_cases h2 : n > 0
    · rw [if_pos h2]
      have d2 : decide (n > 0) = true := decide_eq_true h2
      have d3 : decide (0 < n) = true := decide_eq_true h2
      go_enter Try.func64, Try.ntmps64
      go_wp2_with fail
      go_ret
      exact ⟨rfl, Below.refl _ _⟩
    · rw [if_neg h2]
      have d2 : decide (n > 0) = false := decide_eq_false h2
      have d3 : decide (0 < n) = false := decide_eq_false h2
      go_enter Try.func64, Try.ntmps64
      go_wp2_with fail
      go_ret
      exact ⟨rfl, Below.refl _ _⟩

theorem mul_bd : ∀ x y : Int, -4194304 ≤ x ∧ x ≤ 4194304 → -4194304 ≤ y ∧ y ≤ 4194304 → -17592186044416 ≤ x * y ∧ x * y ≤ 17592186044416 := by
  intro x y hx hy
  have h1 : (x + 4194304) * (y + 4194304) ≥ 0 := Int.mul_nonneg (by omega) (by omega)
  have h2 : (4194304 - x) * (4194304 - y) ≥ 0 := Int.mul_nonneg (by omega) (by omega)
  have h3 : (x + 4194304) * (4194304 - y) ≥ 0 := Int.mul_nonneg (by omega) (by omega)
  have h4 : (4194304 - x) * (y + 4194304) ≥ 0 := Int.mul_nonneg (by omega) (by omega)
  simp only [Int.add_mul, Int.mul_add, Int.sub_mul, Int.mul_sub] at h1 h2 h3 h4
  omega
set_option maxHeartbeats 2000000 in
theorem rcross_any (ax ay bx by_ cx cy : Int) (w : World) (ha : -2097152 ≤ ax ∧ ax ≤ 2097152 ∧ -2097152 ≤ ay ∧ ay ≤ 2097152) (hb : -2097152 ≤ bx ∧ bx ≤ 2097152 ∧ -2097152 ≤ by_ ∧ by_ ≤ 2097152) (hc : -2097152 ≤ cx ∧ cx ≤ 2097152 ∧ -2097152 ≤ cy ∧ cy ≤ 2097152) :
    Calls Try.prog 63 #[.agg #[.int .i64 ax, .int .i64 ay], .agg #[.int .i64 bx, .int .i64 by_], .agg #[.int .i64 cx, .int .i64 cy]] w (IntB (crossP (ax, ay) (bx, by_) (cx, cy)) w) := by
  unfold crossP
  dsimp only
  obtain ⟨e1, e2⟩ := mul_bd (bx - ax) (cy - ay) (by omega) (by omega)
  obtain ⟨e3, e4⟩ := mul_bd (by_ - ay) (cx - ax) (by omega) (by omega)
  obtain ⟨a1, a2, a3, a4⟩ := ha
  obtain ⟨b1, b2, b3, b4⟩ := hb
  obtain ⟨c1, c2, c3, c4⟩ := hc
  go_enter Try.func63, Try.ntmps63
  go_wp2_with fail
  go_ret
  exact ⟨rfl, (((Below.refl _ _).alloc (Nat.le_refl _) _).alloc (by simp) _).alloc (by simp; omega) _⟩

end Go.Proofs.Ytdpbihbcggpobaa
