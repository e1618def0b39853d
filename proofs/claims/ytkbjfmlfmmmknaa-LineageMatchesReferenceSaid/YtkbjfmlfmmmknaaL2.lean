/- The walk of Few. -/
import Derived.Test.YtkbjfmlfmmmknaaL1
namespace Go.Proofs.Ytkbjfmlfmmmknaa
open Go.RowKit Go.Maps Go.WideMaps Go.ChangeMaps Go.Sort

def FewPost (w : World) (len n : Nat) (en : Ending) (w' : World) : Prop := ∃ b, en = .returned (.bool b) ∧ (b = true → len ≤ n) ∧ w = w'

set_option maxHeartbeats 1000000 in
theorem few_many (w : World) (A : Option Addr) (len c n : Nat) (_hl : len ≤ maxLen) (hn : n < len) : Calls Try.prog 11 #[.slice A len c, .int .i64 n] w (FewPost w len n) := by
  have h0 : (0 : Int) < (len : Int) := by omega
  have h1 : decide (len ≤ n) = false := by simp; omega
  have h2 : decide ((len : Int) ≤ (n : Int)) = false := by simp; omega
  go_enter Try.func11, Try.ntmps11
  go_wp2_with fail
  refine wp_loop_rounds 1 ?_
  rw [rounds_succ]
  go_wp2_with fail
  go_ret
  exact ⟨_, rfl, fun h => (by cases h), rfl⟩

theorem few_zero (w : World) (A : Option Addr) (c n : Nat) : Calls Try.prog 11 #[.slice A 0 c, .int .i64 n] w (FewPost w 0 n) := by
  go_enter Try.func11, Try.ntmps11
  go_wp2_with fail
  refine wp_loop_rounds 1 ?_
  rw [rounds_succ]
  go_wp2_with fail
  go_ret
  exact ⟨_, rfl, fun _ => Nat.zero_le _, rfl⟩

set_option maxHeartbeats 2000000 in
theorem few_some (w : World) (B o c n : Nat) (es : List EdC) (hE : EdsAt w B o es) (_hl : es.length ≤ 1000) (hn : es.length ≤ n) (hn2 : n ≤ 1000) (hok : ∀ e ∈ es, e.ok) :
    Calls Try.prog 11 #[.slice (some ⟨B, o, none⟩) es.length c, .int .i64 n] w (FewPost w es.length n) := by
  have h1 : decide (es.length ≤ n) = true := by simp; omega
  have h2 : decide ((es.length : Int) ≤ (n : Int)) = true := by simp; omega
  have HE := Lib.hid hE
  have HOK := Lib.hid hok
  clear hE hok
  go_enter Try.func11, Try.ntmps11
  go_wp2_with fail
  go_loop [5] (fun i => ∃ k : Nat, k ≤ es.length ∧ i = .int .i64 k) (fun i => es.length - (intOf i).toNat)
  case atStart => exact ⟨0, Nat.zero_le _, rfl⟩
  case round =>
    obtain ⟨k, hk, rfl⟩ := hrel
    by_cases hlt : k < es.length
    · obtain ⟨e, he⟩ : ∃ e, es[k]? = some e := ⟨_, List.getElem?_eq_getElem hlt⟩
      have hra := HE.out k e he
      have hc1 : w.cell? ⟨B, o + k * 15 + 1, none⟩ = some (.string e.id) := hra 1 _ rfl
      have hc2 : w.cell? ⟨B, o + k * 15 + 2, none⟩ = some (.string e.other) := hra 2 _ rfl
      have hc9 : w.cell? ⟨B, o + k * 15 + 9, none⟩ = some (.string e.obj) := hra 9 _ rfl
      have hok := HOK.out e (List.mem_of_getElem? he)
      have s1 := hok.id
      have s2 := hok.other
      have s3 := hok.obj
      clear hra he hok
      obtain ⟨op, id, other, obj, c3, c4, c5, c6, c7, c8, c10, c11, c12, c13, c14⟩ := e
      dsimp only at hc1 hc2 hc9 s1 s2 s3
      have hki : (k : Int) < (es.length : Int) := by omega
      unfold maxLen at s1 s2 s3
      by_cases t1 : 100 < id.size
      · have b1 : decide (100 < id.size) = true := by simp; omega
        have b1' : decide ((100 : Int) < (id.size : Int)) = true := by simp; omega
        go_wp2_with fail
        go_ret
        exact ⟨_, rfl, fun _ => hn, rfl⟩
      · have b1 : decide (100 < id.size) = false := by simp; omega
        have b1' : decide ((100 : Int) < (id.size : Int)) = false := by simp; omega
        by_cases t2 : 100 < other.size
        · have b2 : decide (100 < other.size) = true := by simp; omega
          have b2' : decide ((100 : Int) < (other.size : Int)) = true := by simp; omega
          go_wp2_with fail
          go_ret
          exact ⟨_, rfl, fun _ => hn, rfl⟩
        · have b2 : decide (100 < other.size) = false := by simp; omega
          have b2' : decide ((100 : Int) < (other.size : Int)) = false := by simp; omega
          by_cases t3 : 100 < obj.size
          · have b3 : decide (100 < obj.size) = true := by simp; omega
            have b3' : decide ((100 : Int) < (obj.size : Int)) = true := by simp; omega
            go_wp2_with fail
            go_ret
            exact ⟨_, rfl, fun _ => hn, rfl⟩
          · have b3 : decide (100 < obj.size) = false := by simp; omega
            have b3' : decide ((100 : Int) < (obj.size : Int)) = false := by simp; omega
            go_wp2_with fail
            go_round
            case rel => exact ⟨k + 1, by omega, by go_num⟩
            case measure => simp [intOf]; omega
    · have hki : decide ((k : Int) < (es.length : Int)) = false := by simp; omega
      have hki2 : decide (k < es.length) = false := by simp; omega
      go_wp2_with fail
      go_ret
      exact ⟨_, rfl, fun _ => hn, rfl⟩

/-- Few: where it says yes there are at most n edits. -/
theorem few_any (w : World) (v : Value) (es : List EdC) (n : Nat) (h : Eds w v es) (hn : n ≤ 1000) : Calls Try.prog 11 #[v, .int .i64 n] w (FewPost w es.length n) := by
  obtain ⟨hok, A, c, rfl, h1, h2, h3⟩ := h
  by_cases hm : n < es.length
  · exact few_many w A es.length c n (by omega) hm
  by_cases h0 : es.length = 0
  · rw [h0]
    exact few_zero w A c n
  · obtain ⟨B, o, rfl, hB, hE⟩ := h3 (by omega)
    exact few_some w B o c n es hE (by omega) (by omega) hn hok

end Go.Proofs.Ytkbjfmlfmmmknaa
