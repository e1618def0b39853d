/- Plain: of the law's many segments only the last two meet. And: a row of segments, and All at too many. -/
import Derived.Test.YtdpbihbcggpobaaL6
namespace Go.Proofs.Ytdpbihbcggpobaa
open Go.RowKit Go.Maps

def famAt (i : Nat) : Sg := ((100 * (i : Int) - 1000000, 10), (100 * (i : Int) - 1000000 + 50, 20 + (i : Int) % 7))
def fam (n : Nat) : List Sg := (List.range n).map famAt
def lastA : Sg := ((-1000000, 0), (1000000, 5))
def lastB : Sg := ((-1000000, 5), (1000000, 0))
theorem inf34 : (Try.prog.info? 34).map (fun i => (i.zero, i.size, i.bytes)) = some (some (.agg #[.int .i64 0, .int .i64 0, .int .i64 0, .int .i64 0]), 4, 32) := by kernel_rfl
theorem sgCells_one (s : Sg) : ∀ v ∈ sgCells s, v.oneCell' = true := by
  intro v hv
  simp only [sgCells, List.mem_cons, List.not_mem_nil, or_false] at hv
  rcases hv with rfl | rfl | rfl | rfl <;> rfl
theorem wpList_append_sg (w : World) {ops : Array Oper} {rest : List Oper} {o : Oper} {a : Act} {Q : Exit → Act → World → Prop} (hg : o.guard = none) (s x : Operand)
    (ho : o.op = Op.call { callee := Callee.builtin Builtin.append, args := #[s, x], argTypes := #[22, 22] }) (B : Nat) (v : Value) (K L : List Sg) (X c m : Nat) (hs : a.eval s = v) (hx : a.eval x = .slice (some ⟨X, 0, none⟩) m c) (hm : L.length = m)
    (hown : w.ownsRow B 34 4 v K.length (K.flatMap sgCells)) (hu : w.rangeAt X 0 (L.flatMap sgCells)) (hl : K.length + m ≤ 1000000) (hbase : B ≤ w.heap.size)
    (h : ∀ v' w', w'.ownsRow B 34 4 v' (K ++ L).length ((K ++ L).flatMap sgCells) → w.grownBy w' v.ownBlock → wpList Try.prog ops Q rest (a.put o.dst v') w') : wpList Try.prog ops Q (o :: rest) a w := by
  refine wpList_plain hg fun C hC => ?_
  obtain ⟨i, hi, hz, h1, h2⟩ := info_parts inf34
  obtain ⟨v', w', hrun, r1, r2, _, r4⟩ := run_append_own_at (P := Try.prog) w B 22 o.type 34 i _ 4 32 Try.underlying22 hi hz h1 h2 rfl (by decide) v K.length (K.flatMap sgCells) hown ⟨X, 0, none⟩ m c (L.flatMap sgCells) (by rw [flat_length sgCells 4 sgCells_len, hm])
    (fun j x hj => by
      have e : (⟨X, 0, none⟩ : Addr).add j = ⟨X, 0 + j, none⟩ := by (simp [Addr.add]; intro e; exact e.symm)
      rw [e]; exact hu j x hj) (fun u hu => by obtain ⟨s, _, hs⟩ := List.mem_flatMap.1 hu; exact sgCells_one s u hs) (by unfold maxLen; omega) (by omega) hbase
  unfold Oper.wp
  simp [execOp, ho, resolve, invoke, builtin, hs, hx, hrun, Result.andThen]
  exact hC _ _ (h v' w' (by rw [List.length_append, hm, List.flatMap_append]; exact r1) r2)
theorem sg_range (w : World) (L : List Sg) : (w.alloc (.cells (L.flatMap sgCells).toArray 34)).rangeAt w.heap.size 0 (L.flatMap sgCells) := by
  intro j v hj
  rw [Nat.zero_add]
  exact (blk_new w (L.flatMap sgCells) 34).c j hj
theorem SegsAt.own {w : World} {B : Nat} {v : Value} {L : List Sg} (h : w.ownsRow B 34 4 v L.length (L.flatMap sgCells)) : SegsAt w v L := by
  rcases own_form h with ⟨A, c, rfl, h0⟩ | ⟨g, cap, rfl, h0⟩
  · exact ⟨A, c, rfl, .inl (List.eq_nil_of_length_eq_zero h0)⟩
  · refine ⟨_, cap, rfl, .inr ⟨g, 0, rfl, own_lt h, fun i hi j v hj => ?_⟩⟩
    rcases h.2 with ⟨h1, _⟩ | ⟨g', cap', cur, h1, hbase, hb, c1, c2, c3, c4⟩
    · cases h1
    · cases h1
      have hj3 : j < 4 := by
        have := (List.getElem?_eq_some_iff.1 hj).1; rw [sgCells_len] at this; exact this
      have h5 : (i + 1) * 4 ≤ L.length * 4 := Nat.mul_le_mul_right 4 hi
      have e1 : (cur.toList.take (L.length * 4))[i * 4 + j]? = some v := by
        rw [c4, flat_at sgCells 4 sgCells_len L i j hi hj3]; exact hj
      rw [List.getElem?_take_of_lt (by omega), Array.getElem?_toList] at e1
      have hlt : i * 4 + j < cur.size := (Array.getElem?_eq_some_iff.1 e1).1
      rw [Nat.zero_add, cell_of_row w g (i * 4 + j) cur 34 (0, 0) hb, e1]

theorem all_many (n c : Nat) (p : Option Addr) (w : World) (hn : 20000 < n) (hn2 : n ≤ 1000000) : Calls Try.prog 10 #[.slice p n c] w (fun e w' => e = .returned (.tuple #[.slice none 0 0, .int .i64 2]) ∧ Below w.heap.size w w') := by
  have hcm : decide ((n : Int) > 20000) = true := by simp; omega
  have hcm2 : decide ((20000 : Int) < (n : Int)) = true := by simp; omega
  go_enter Try.func10, Try.ntmps10
  go_wp2_with fail
  exact bodyPost_ret (v := .tuple #[.slice none 0 0, .int .i64 2]) (by simp [results, Try.results10, go_sem]) rfl ⟨rfl, Below.refl _ _⟩

theorem fam_len (n : Nat) : (fam n).length = n := by unfold fam; simp
theorem fam_succ (n : Nat) : fam (n + 1) = fam n ++ [famAt n] := by unfold fam; rw [List.range_succ, List.map_append]; rfl
theorem last_meets : meets lastA lastB = 3 := by decide
theorem limit_plain (k : Nat) : allP (kindOf (fam k ++ [lastA, lastB])) (fam k ++ [lastA, lastB]).length (fam k ++ [lastA, lastB]).length = [(k, k + 1, 3)] := by
  have hl : (fam k ++ [lastA, lastB]).length = k + 2 := by simp [fam_len]
  have hlo : ∀ i (h : i < (fam k ++ [lastA, lastB]).length), i < k → (fam k ++ [lastA, lastB])[i] = famAt i := fun i h hi => by
    rw [List.getElem_append_left (by rw [fam_len]; exact hi)]
    simp [fam]
  have h0 : ∀ (h : k < (fam k ++ [lastA, lastB]).length), (fam k ++ [lastA, lastB])[k] = lastA := fun h => by
    rw [List.getElem_append_right (by rw [fam_len]; exact Nat.le_refl _)]; simp [fam_len]
  have h1 : ∀ (h : k + 1 < (fam k ++ [lastA, lastB]).length), (fam k ++ [lastA, lastB])[k + 1] = lastB := fun h => by
    rw [List.getElem_append_right (by rw [fam_len]; omega)]; simp [fam_len]
  refine eq_of_mlt (allP_pair _ _ _) (by simp) fun m => ?_
  rw [mem_allP, List.mem_singleton]
  constructor
  · rintro ⟨a1, a2, a3, a4, a5⟩
    rw [kind_at (by omega) (by omega)] at a4
    rw [a4] at a5
    have hov := meets_over a5
    by_cases hk : m.1 < k
    · exfalso
      rw [hlo _ _ hk] at hov
      by_cases hk2 : m.2.1 < k
      · rw [hlo _ _ hk2] at hov
        simp only [Over, famAt] at hov
        omega
      · have e : m.2.1 = k ∨ m.2.1 = k + 1 := by omega
        obtain ⟨m1, m2, m3⟩ := m
        simp only at e hk hov a3
        rcases e with rfl | rfl
        · rw [h0] at hov; simp only [Over, famAt, lastA] at hov; omega
        · rw [h1] at hov; simp only [Over, famAt, lastB] at hov; omega
    · obtain ⟨m1, m2, m3⟩ := m
      simp only at hk a1 a2 a3 a4
      obtain rfl : m1 = k := by omega
      obtain rfl : m2 = m1 + 1 := by omega
      rw [a4]
      have e0 := h0 (by omega)
      have e1 := h1 (by omega)
      simp only [e0, e1, last_meets]
  · rintro rfl
    show k < _ ∧ k < k + 1 ∧ k + 1 < _ ∧ (3 : Int) = kindOf _ k (k + 1) ∧ (3 : Int) ≠ 0
    refine ⟨by omega, by omega, by omega, ?_, by decide⟩
    rw [kind_at (by omega) (by omega), h0, h1, last_meets]

end Go.Proofs.Ytdpbihbcggpobaa
