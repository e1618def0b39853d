/- Plain: the reversed list of turned segments. And the walk of Kind. -/
import Derived.Test.YtdpbihbcggpobaaF8
namespace Go.Proofs.Ytdpbihbcggpobaa
open Go.RowKit Go.Maps

def turnS (s : Sg) : Sg := (s.2, s.1)
def back (l : List Sg) : List Sg := (l.map turnS).reverse
theorem back_len (l : List Sg) : (back l).length = l.length := by unfold back; simp
theorem back_at (l : List Sg) {i : Nat} (h : i < (back l).length) : (back l)[i] = turnS (l[l.length - 1 - i]'(by rw [back_len] at h; omega)) := by
  have e : (back l)[i] = ((l.map turnS).reverse)[i]'(by simpa [back] using h) := rfl
  rw [e, List.getElem_reverse, List.getElem_map]
  simp
theorem kind_back (l : List Sg) {i j : Nat} (hi : i < l.length) (hj : j < l.length) : kindOf (back l) i j = kindOf l (l.length - 1 - i) (l.length - 1 - j) := by
  rw [kind_at (by rw [back_len]; exact hi) (by rw [back_len]; exact hj), kind_at (by omega) (by omega), back_at, back_at]
  unfold turnS
  rw [meets_swap, meets_swap']
theorem kind_comm (l : List Sg) {i j : Nat} (hi : i < l.length) (hj : j < l.length) : kindOf l i j = kindOf l j i := by
  rw [kind_at hi hj, kind_at hj hi, meets_comm]
def sig (n : Nat) (m : Mt) : Mt := (n - 1 - m.2.1, n - 1 - m.1, m.2.2)
theorem sig_in (l : List Sg) {m : Mt} (h : m ∈ allP (kindOf l) l.length l.length) : sig l.length m ∈ allP (kindOf (back l)) l.length l.length := by
  obtain ⟨h1, h2, h3, h4, h5⟩ := (mem_allP _).1 h
  refine (mem_allP _).2 ⟨?_, ?_, ?_, ?_, h5⟩
  · show l.length - 1 - m.2.1 < _; omega
  · show l.length - 1 - m.2.1 < l.length - 1 - m.1; omega
  · show l.length - 1 - m.1 < _; omega
  · show m.2.2 = kindOf (back l) (l.length - 1 - m.2.1) (l.length - 1 - m.1)
    rw [kind_back l (by omega) (by omega), h4, kind_comm l (by omega) h3]
    congr 1 <;> omega
theorem sig_sig {n : Nat} {m : Mt} (h1 : m.1 < n) (h2 : m.2.1 < n) : sig n (sig n m) = m := by
  unfold sig
  exact Prod.ext (by simp; omega) (Prod.ext (by simp; omega) rfl)
theorem back_back (l : List Sg) : back (back l) = l := by
  unfold back
  rw [List.map_reverse, List.reverse_reverse, List.map_map]
  have : turnS ∘ turnS = id := by funext s; rfl
  rw [this, List.map_id]
theorem back_length (l : List Sg) : (allP (kindOf (back l)) l.length l.length).length = (allP (kindOf l) l.length l.length).length := by
  have hp : (allP (kindOf (back l)) l.length l.length).Perm ((allP (kindOf l) l.length l.length).map (sig l.length)) := by
    refine (List.perm_ext_iff_of_nodup ?_ ?_).2 fun m => ?_
    · exact (allP_pair _ _ _).imp fun h e => by subst e; exact Mlt.irrefl h
    · refine List.pairwise_map.2 ((allP_pair _ _ _).imp_of_mem fun {a b} ha hb h e => ?_)
      have ma := (mem_allP _).1 ha
      have mb := (mem_allP _).1 hb
      unfold sig at e
      have e1 := congrArg (fun x : Mt => x.1) e
      have e2 := congrArg (fun x : Mt => x.2.1) e
      simp only at e1 e2
      unfold Mlt at h
      omega
    · rw [List.mem_map]
      constructor
      · intro h
        have hb := sig_in (back l) (by rw [back_len]; exact h)
        rw [back_back, back_len] at hb
        have mm := (mem_allP _).1 h
        exact ⟨_, hb, sig_sig (by omega) (by omega)⟩
      · rintro ⟨a, ha, rfl⟩
        exact sig_in l ha
  rw [hp.length_eq, List.length_map]

set_option maxHeartbeats 4000000 in
theorem kind_any (L : List Mt) (f : Nat → Nat → Int) (a b lo hi : Nat) (hlo : min a b = lo) (hhi : max a b = hi) (hf : ∀ x ∈ L, x.2.2 = f x.1 x.2.1) (hin : f lo hi ≠ 0 → (lo, hi, f lo hi) ∈ L) (v : Value) (w : World) (hv : MsAt w v L) (hl : L.length ≤ 1000000) :
    Calls Try.prog 14 #[v, .int .i64 (a : Int), .int .i64 (b : Int)] w (IntB (f lo hi) w) := by
  obtain ⟨p, c, rfl, hp⟩ := hv
  have HP := Lib.hid hp
  have HF := Lib.hid (And.intro hf hin)
  have hmn : min (a : Int) (b : Int) = (lo : Int) := by omega
  have hmx : max (a : Int) (b : Int) = (hi : Int) := by omega
  clear hp hf hin hlo hhi
  go_enter Try.func14, Try.ntmps14
  go_wp2_with fail
  go_loopg [7] L.length (fun c' i wr => ∃ k : Nat, k + c' = L.length ∧ i = .int .i64 k ∧ Below w.heap.size w wr ∧ ∀ j (hj : j < L.length), j < k → ¬ (L[j].1 = lo ∧ L[j].2.1 = hi))
  case atStart => exact ⟨0, by omega, rfl, Below.refl _ _, fun j _ hj => absurd hj (by omega)⟩
  case round =>
    obtain ⟨k, hk, rfl, hb, hq⟩ := hrel
    have HK := Lib.hid hk
    have HB := Lib.hid hb
    have HQ := Lib.hid hq
    by_cases hlt : k < L.length
    · have hki : decide ((k : Int) < (L.length : Int)) = true := by simp; omega
      rcases HP.out with hp | ⟨g, rfl, hgl, hra⟩
      · rw [hp] at hlt; simp at hlt
      have hx := range_old (hra k hlt) hgl hb
      have HM : Hid (∀ m, L[k] = m → m.1 = lo → m.2.1 = hi → m.2.2 = f lo hi) := Lib.hid fun m e e1 e2 => by rw [← e1, ← e2]; exact HF.out.1 m (by rw [← e]; exact List.getElem_mem hlt)
      have HN : Hid (¬ (L[k].1 = lo ∧ L[k].2.1 = hi) → ∀ j (hj : j < L.length), j < k + 1 → ¬ (L[j].1 = lo ∧ L[j].2.1 = hi)) := Lib.hid fun hne j hj hjk => by
        by_cases e : j = k
        · subst e; exact hne
        · exact HQ.out j hj (by omega)
      clear hra hk hb hq
      generalize L[k] = m at hx HM HN
      obtain ⟨m1, m2, m3⟩ := m
      have c0 : wr.cell? ⟨g, k * 3, none⟩ = some (.int .i64 (m1 : Int)) := hx 0 _ rfl
      have c1 : wr.cell? ⟨g, k * 3 + 1, none⟩ = some (.int .i64 (m2 : Int)) := hx 1 _ rfl
      have c2 : wr.cell? ⟨g, k * 3 + 2, none⟩ = some (.int .i64 m3) := hx 2 _ rfl
      clear hx
      by_cases h1 : m1 = lo
      · by_cases h2 : m2 = hi
        · subst h1 h2
          have e3 := HM.out _ rfl rfl rfl
          simp only at e3
          have hfin : IntB (f m1 m2) w (.returned (.int .i64 m3)) wr := ⟨by rw [e3], HB.out⟩
          have HFI := Lib.hid hfin
          clear hfin e3
          go_wp2_with fail
          go_ret
          exact HFI.out
        · subst h1
          have d1 : decide ((m2 : Int) = (hi : Int)) = false := by simp; omega
          have d2 : decide (m2 = hi) = false := by simp; omega
          have d3 : ((m2 : Int) == (hi : Int)) = false := by simp; omega
          have d4 : (m2 == hi) = false := by simp; omega
          have HN2 := Lib.hid (HN.out (fun e => h2 e.2))
          go_wp2_with fail
          have hk1 := HK.out
          go_roundg (gk - 1)
          case measure => omega
          case rel => exact ⟨k + 1, by omega, by congr 1, HB.out, HN2.out⟩
      · have d1 : decide ((m1 : Int) = (lo : Int)) = false := by simp; omega
        have d2 : decide (m1 = lo) = false := by simp; omega
        have d3 : ((m1 : Int) == (lo : Int)) = false := by simp; omega
        have d4 : (m1 == lo) = false := by simp; omega
        have HN2 := Lib.hid (HN.out (fun e => h1 e.1))
        go_wp2_with fail
        have hk1 := HK.out
        go_roundg (gk - 1)
        case measure => omega
        case rel => exact ⟨k + 1, by omega, by congr 1, HB.out, HN2.out⟩
    · have hki : decide ((k : Int) < (L.length : Int)) = false := by simp; omega
      have hz : f lo hi = 0 := Classical.byContradiction fun hne => by
        obtain ⟨j, hj, e⟩ := List.getElem_of_mem (HF.out.2 hne)
        exact HQ.out j hj (by omega) (by rw [e]; exact ⟨rfl, rfl⟩)
      have hfin : IntB (f lo hi) w (.returned (.int .i64 0)) wr := ⟨by rw [hz], HB.out⟩
      have HFI := Lib.hid hfin
      clear hfin hb hq hk
      go_wp2_with fail
      go_ret
      exact HFI.out

end Go.Proofs.Ytdpbihbcggpobaa
