/- Slices of strings that the call has made: how they are held; the walks of In and Same. -/
import Derived.Test.YtkbjfmlfmmmknaaF1
namespace Go.Proofs.Ytkbjfmlfmmmknaa
open Go.RowKit Go.Maps Go.WideMaps Go.ChangeMaps

/-- Block g holds strings, in this order. -/
structure SLat (w : World) (g : Nat) (ss : List ByteArray) : Prop where
  lt : g < w.heap.size
  cell : ∀ i, i < ss.length → w.cell? ⟨g, i, none⟩ = some (.string (ss[i]?.getD ByteArray.empty))

/-- A slice of these strings: the nil one, or one whose array begins a block. -/
def SL (w : World) (v : Value) (ss : List ByteArray) : Prop := ss.length ≤ 1000000 ∧ ((v = .slice none 0 0 ∧ ss = []) ∨ ∃ g cap, v = .slice (some ⟨g, 0, none⟩) ss.length cap ∧ SLat w g ss)

theorem SLat.turn {w w' : World} {g : Nat} {ss : List ByteArray} {F : Nat → Prop} (h : SLat w g ss) (ht : Turn F w w') (hg : ¬ F g) : SLat w' g ss :=
  ⟨Nat.lt_of_lt_of_le h.lt ht.size, fun i hi => (World.cell?_of_block (a := ⟨g, i, none⟩) (ht.block g h.lt hg)).trans (h.cell i hi)⟩
theorem SL.turn {w w' : World} {v : Value} {ss : List ByteArray} {F : Nat → Prop} (h : SL w v ss) (ht : Turn F w w') (hg : ∀ g, v.ownBlock = some g → ¬ F g) : SL w' v ss := by
  refine ⟨h.1, ?_⟩
  rcases h.2 with h0 | ⟨g, cap, rfl, h1⟩
  · exact .inl h0
  · exact .inr ⟨g, cap, rfl, h1.turn ht (hg g rfl)⟩
theorem SL.lt {w : World} {v : Value} {ss : List ByteArray} (h : SL w v ss) : ∀ g, v.ownBlock = some g → g < w.heap.size := by
  intro g hg
  rcases h.2 with ⟨rfl, _⟩ | ⟨g', cap, rfl, h1⟩
  · simp [Value.ownBlock] at hg
  · simp [Value.ownBlock] at hg; subst hg; exact h1.lt

/-- What In hands back. -/
def InPost (w : World) (ss : List ByteArray) (s : ByteArray) (e : Ending) (w' : World) : Prop := ∃ b, e = .returned (.bool b) ∧ (b = true ↔ s ∈ ss) ∧ w = w'

theorem bytes_eq {a b : ByteArray} (h : (a.toList == b.toList) = true) : a = b := by
  simp only [ByteArray.toList_eq, beq_iff_eq] at h
  exact str_eq h
theorem bytes_ne {a b : ByteArray} (h : (a.toList == b.toList) = false) : a ≠ b := fun e => by subst e; simp at h

theorem in_none (w : World) (s : ByteArray) (A : Option Addr) (cap : Nat) : Calls Try.prog 24 #[.slice A 0 cap, .string s] w (InPost w [] s) := by
  go_enter Try.func24, Try.ntmps24
  go_wp2_with fail
  refine wp_loop_rounds 1 ?_
  rw [rounds_succ]
  go_wp2_with fail
  go_ret
  exact ⟨false, rfl, by simp, rfl⟩

set_option maxHeartbeats 1000000 in
theorem in_some (w : World) (g cap : Nat) (ss : List ByteArray) (s : ByteArray) (h : SLat w g ss) (hl : ss.length ≤ 1000000) :
    Calls Try.prog 24 #[.slice (some ⟨g, 0, none⟩) ss.length cap, .string s] w (InPost w ss s) := by
  have hcell := h.cell
  have HC := Lib.hid hcell
  clear hcell h
  go_enter Try.func24, Try.ntmps24
  go_wp2_with fail
  go_loop [5] (fun i => ∃ k : Nat, k ≤ ss.length ∧ i = .int .i64 k ∧ Hid (∀ j, j < k → ss[j]?.getD ByteArray.empty ≠ s)) (fun i => ss.length - (intOf i).toNat)
  case atStart => exact ⟨0, Nat.zero_le _, rfl, fun j hj => absurd hj (by omega)⟩
  case round =>
    obtain ⟨k, hk, rfl, hq⟩ := hrel
    by_cases hlt : k < ss.length
    · have hc := HC.out k hlt
      generalize hu : ss[k]?.getD ByteArray.empty = u at *
      have HU := Lib.hid hu
      clear hu
      go_wp2_with fail
      · have hb : (u.toList == s.toList) = true := by assumption
        have hus := bytes_eq hb
        go_ret
        refine ⟨true, rfl, ⟨fun _ => ?_, fun _ => rfl⟩, rfl⟩
        have h1 := HU.out
        rw [List.getElem?_eq_getElem hlt] at h1
        rw [← hus, ← h1]
        exact List.getElem_mem hlt
      · have hb : (u.toList == s.toList) = false := by assumption
        have hus := bytes_ne hb
        go_round
        case rel => exact ⟨k + 1, by omega, by go_num, fun j hj => by
          by_cases e : j = k
          · subst e; rw [HU.out]; exact hus
          · exact hq.out j (by omega)⟩
        case measure => simp [intOf]; omega
    · go_wp2_with fail
      go_ret
      refine ⟨false, rfl, ⟨fun h => (by cases h), fun hm => ?_⟩, rfl⟩
      obtain ⟨j, hj, he⟩ := List.getElem_of_mem hm
      have := hq.out j (by omega)
      rw [List.getElem?_eq_getElem hj] at this
      exact absurd he this

/-- In, at a slice of strings. -/
theorem in_any (w : World) (v : Value) (ss : List ByteArray) (s : ByteArray) (h : SL w v ss) : Calls Try.prog 24 #[v, .string s] w (InPost w ss s) := by
  rcases h.2 with ⟨rfl, rfl⟩ | ⟨g, cap, rfl, h1⟩
  · exact in_none w s none 0
  · exact in_some w g cap ss s h1 h.1

/-- What Same hands back. -/
def SamePost (w : World) (xs ys : List ByteArray) (e : Ending) (w' : World) : Prop := ∃ b, e = .returned (.bool b) ∧ (b = true ↔ xs = ys) ∧ ∃ m, w' = w.drewN m

set_option maxHeartbeats 1000000 in
theorem same_len (w : World) (A B : Option Addr) (n m c d : Nat) (hne : n ≠ m) (xs ys : List ByteArray) (hx : xs.length = n) (hy : ys.length = m) : Calls Try.prog 16 #[.slice A n c, .slice B m d] w (SamePost w xs ys) := by
  have hb : (((n : Int) != (m : Int))) = true := by rw [bne_iff_ne]; omega
  have HX : Hid (xs ≠ ys) := Lib.hid (fun e => hne (by rw [← hx, ← hy, e]))
  clear hx hy hne
  go_enter Try.func16, Try.ntmps16
  go_wp2_with fail
  go_ret
  exact ⟨false, rfl, ⟨fun h => (by cases h), fun h => absurd h HX.out⟩, 0, rfl⟩

theorem same_zero (w : World) (A B : Option Addr) (c d : Nat) : Calls Try.prog 16 #[.slice A 0 c, .slice B 0 d] w (SamePost w [] []) := by
  go_enter Try.func16, Try.ntmps16
  go_wp2_with fail
  refine wp_loop_rounds 1 ?_
  rw [rounds_succ]
  go_wp2_with fail
  go_ret
  exact ⟨true, rfl, by simp, 0, rfl⟩

set_option maxHeartbeats 2000000 in
theorem same_some (w : World) (g1 g2 c1 c2 n : Nat) (xs ys : List ByteArray) (hx : SLat w g1 xs) (hy : SLat w g2 ys) (hn : xs.length = n) (hm : ys.length = n) (hl : n ≤ 1000000) :
    Calls Try.prog 16 #[.slice (some ⟨g1, 0, none⟩) n c1, .slice (some ⟨g2, 0, none⟩) n c2] w (SamePost w xs ys) := by
  have hb : (((n : Int) != (n : Int))) = false := by simp
  have hc1 : ∀ i, i < n → ∀ q, (w.drewN q).cell? ⟨g1, i, none⟩ = some (.string (xs[i]?.getD ByteArray.empty)) := fun i hi _ => hx.cell i (by omega)
  have hc2 : ∀ i, i < n → ∀ q, (w.drewN q).cell? ⟨g2, i, none⟩ = some (.string (ys[i]?.getD ByteArray.empty)) := fun i hi _ => hy.cell i (by omega)
  have HC1 := Lib.hid hc1
  have HC2 := Lib.hid hc2
  have HN := Lib.hid hn
  have HM := Lib.hid hm
  clear hc1 hc2 hx hy hn hm
  go_enter Try.func16, Try.ntmps16
  go_wp2_with fail
  go_loopw [5] (fun i wr => ∃ k q : Nat, k ≤ n ∧ i = .int .i64 k ∧ wr = w.drewN q ∧ Hid (∀ j, j < k → xs[j]?.getD ByteArray.empty = ys[j]?.getD ByteArray.empty)) (fun i _ => n - (intOf i).toNat)
  case atStart => exact ⟨0, 0, Nat.zero_le _, rfl, rfl, fun j hj => absurd hj (by omega)⟩
  case round =>
    obtain ⟨k, q, hk, rfl, rfl, hq⟩ := hrel
    by_cases hlt : k < n
    · have hcx := HC1.out k hlt q
      have hcy := HC2.out k hlt q
      have hki : (k : Int) < (n : Int) := by omega
      generalize hu : xs[k]?.getD ByteArray.empty = u at *
      generalize hv : ys[k]?.getD ByteArray.empty = v at *
      have HU := Lib.hid hu
      have HV := Lib.hid hv
      clear hu hv
      generalize hW : w.drewN q = W at *
      have HW := Lib.hid hW
      clear hW
      go_wp2_with fail
      go_quiet (fail)
      go_wp2_with fail
      · have hb : (!u.toList == v.toList) = true := by assumption
        have huv : u ≠ v := bytes_ne (by simpa using hb)
        go_ret
        refine ⟨false, rfl, ⟨fun h => (by cases h), fun e => absurd ?_ huv⟩, q + nq, ?_⟩
        · rw [← HU.out, ← HV.out, e]
        · rw [← HW.out, World.drewN_drewN]
      · have hb : (!u.toList == v.toList) = false := by assumption
        have huv : u = v := bytes_eq (by simpa using hb)
        go_roundw
        case rel =>
          refine ⟨k + 1, q + nq, by omega, by go_num, by rw [← HW.out, World.drewN_drewN], fun j hj => ?_⟩
          by_cases e : j = k
          · subst e; rw [HU.out, HV.out]; exact huv
          · exact hq.out j (by omega)
        case measure => simp [intOf]; omega
    · go_wp2_with fail
      go_ret
      refine ⟨true, rfl, ⟨fun _ => ?_, fun _ => rfl⟩, q, rfl⟩
      have hn := HN.out
      have hm := HM.out
      refine List.ext_getElem (by omega) fun j h1 h2 => ?_
      have := hq.out j (by omega)
      rw [List.getElem?_eq_getElem h1, List.getElem?_eq_getElem h2] at this
      exact this

/-- Same, at two slices of strings. -/
theorem same_any (w : World) (u v : Value) (xs ys : List ByteArray) (hx : SL w u xs) (hy : SL w v ys) : Calls Try.prog 16 #[u, v] w (SamePost w xs ys) := by
  rcases hx.2 with ⟨rfl, rfl⟩ | ⟨g1, c1, rfl, h1⟩
  · rcases hy.2 with ⟨rfl, rfl⟩ | ⟨g2, c2, rfl, h2⟩
    · exact same_zero w none none 0 0
    · by_cases e : ys.length = 0
      · obtain rfl := List.eq_nil_of_length_eq_zero e
        exact same_zero w none _ 0 c2
      · exact same_len w none _ 0 ys.length 0 c2 (by omega) [] ys rfl rfl
  · rcases hy.2 with ⟨rfl, rfl⟩ | ⟨g2, c2, rfl, h2⟩
    · by_cases e : xs.length = 0
      · obtain rfl := List.eq_nil_of_length_eq_zero e
        exact same_zero w _ none c1 0
      · exact same_len w _ none xs.length 0 c1 0 e xs [] rfl rfl
    · by_cases e : xs.length = ys.length
      · have h := same_some w g1 g2 c1 c2 xs.length xs ys h1 h2 rfl e.symm hx.1
        rw [← e]
        exact h
      · exact same_len w _ _ xs.length ys.length c1 c2 e xs ys rfl rfl

end Go.Proofs.Ytkbjfmlfmmmknaa
