/- The library's sort at a row that the call owns: at items, at meetings. -/
import Derived.Test.YtdpbihbcggpobaaT1
import Derived.Test.YtdpbihbcggpobaaS0
import Derived.Laws.AppendOwn
import Derived.Laws.OwnMore
namespace Go.Proofs.Ytdpbihbcggpobaa
open Go.Sort

theorem flat_at {α : Type} (enc : α → List Value) (k : Nat) (hk : ∀ x, (enc x).length = k) : ∀ (l : List α) (i j : Nat) (hi : i < l.length), j < k → (l.flatMap enc)[i * k + j]? = (enc l[i])[j]?
  | a :: l, 0, j, _, hj => by
    rw [List.flatMap_cons, List.getElem?_append_left (by rw [hk]; omega), Nat.zero_mul, Nat.zero_add]; rfl
  | a :: l, i + 1, j, hi, hj => by
    rw [List.flatMap_cons, List.getElem?_append_right (by rw [hk, Nat.add_mul]; omega), hk, show (i + 1) * k + j - k = i * k + j from by rw [Nat.add_mul]; omega]
    exact flat_at enc k hk l i j (Nat.lt_of_succ_lt_succ hi) hj
theorem flat_length {α : Type} (enc : α → List Value) (k : Nat) (hk : ∀ x, (enc x).length = k) (l : List α) : (l.flatMap enc).length = l.length * k := by
  induction l with
  | nil => simp
  | cons a l ih => rw [List.flatMap_cons, List.length_append, hk, ih, List.length_cons, Nat.add_mul]; omega
section
variable {α : Type} [Inhabited α]
theorem flatK_list (enc : α → List Value) (k : Nat) (hk : ∀ x, (enc x).length = k) (h0 : 0 < k) (d : Array α) : (flatK enc k d).toList = d.toList.flatMap enc := by
  have hl : (flatK enc k d).toList.length = (d.toList.flatMap enc).length := by
    rw [flat_length enc k hk, Array.length_toList, size_flatK, Array.length_toList]
  refine List.ext_getElem hl fun t h1 h2 => ?_
  have ht : t < d.size * k := by simpa using h1
  have hi : t / k < d.size := (Nat.div_lt_iff_lt_mul h0).2 ht
  have hj : t % k < k := Nat.mod_lt _ h0
  have e1 : (flatK enc k d).toList[t] = (enc d[t / k]!)[t % k]! := by
    have := get_flatK enc k d t ht
    rw [getElem!_pos _ t (by simpa using ht)] at this
    simpa using this
  have e2 := flat_at enc k hk d.toList (t / k) (t % k) (by simpa using hi) hj
  rw [Nat.div_add_mod' t k] at e2
  rw [e1]
  have e3 : (d.toList.flatMap enc)[t]? = some (d.toList.flatMap enc)[t] := List.getElem?_eq_getElem h2
  rw [e3] at e2
  have h3 : t % k < (enc d[t / k]).length := by rw [hk]; exact hj
  rw [getElem!_pos d _ hi, getElem!_pos (enc d[t / k]) (t % k) h3]
  have e4 : d.toList[t / k]'(by simpa using hi) = d[t / k] := by simp
  rw [e4, List.getElem?_eq_getElem h3] at e2
  exact (Option.some.inj e2).symm

/-- The sort's end, at a row that the call owns. -/
theorem sorted_row {enc : α → List Value} {k : Nat} (hk : ∀ x, (enc x).length = k) (h0 : 0 < k) {w : World} {base g cap n m : Nat} {e : TypeId} {os : Array Obj} {d d' : Array α} (hd' : d'.size = n)
    (h : w.ownsRow base e k (.slice (some ⟨g, 0, none⟩) n cap) n (d.toList.flatMap enc)) :
    (sortWorldK enc k w g 0 m d' os).ownsRow base e k (.slice (some ⟨g, 0, none⟩) n cap) n (d'.toList.flatMap enc) ∧ w.grownBy (sortWorldK enc k w g 0 m d' os) (some g) := by
  rcases h.2 with ⟨h1, _⟩ | ⟨g', cap', cur, h1, hbase, hb, c1, c2, c3, c4⟩
  · cases h1
  · cases h1
    have hg : g < w.heap.size := (Array.getElem?_eq_some_iff.1 hb).1
    have hheap : (sortWorldK enc k w g 0 m d' os).heap[g]? = some (.cells (putCells id 0 (flatK enc k d') cur) e (0, 0)) := by
      unfold sortWorldK putRowK
      rw [heap_grow_old _ _ (by simpa using hg)]
      simp [putRow, mapBlock, Sort.ahead, Array.getElem?_modify, hb, onCells]
    refine ⟨⟨by rw [flat_length enc k hk]; simp [hd'], .inr ⟨g, cap, _, rfl, hbase, hheap, c1, c2, by simp [putCells, c3], ?_⟩⟩, rfl, rfl, rfl, by simp [sortWorldK, putRowK], fun i hi hne => ?_⟩
    · rw [← flatK_list enc k hk h0]
      apply List.ext_getElem?
      intro j
      have hsz : (flatK enc k d').size = n * k := by rw [size_flatK, hd']
      by_cases hj : j < n * k
      · rw [List.getElem?_take_of_lt hj, Array.getElem?_toList, Array.getElem?_toList]
        have hjc : j < cur.size := by rw [c3]; exact Nat.lt_of_lt_of_le hj (Nat.mul_le_mul_right _ c1)
        simp [putCells, hjc, hsz, hj]
      · rw [List.getElem?_eq_none (by rw [List.length_take]; omega), List.getElem?_eq_none (by rw [Array.length_toList, hsz]; omega)]
    · unfold sortWorldK putRowK
      rw [heap_grow_old _ _ (by simpa using hi)]
      have : g ≠ i := fun e => hne (by rw [e])
      simp [putRow, mapBlock, Sort.ahead, Array.getElem?_modify, this]
end

end Go.Proofs.Ytdpbihbcggpobaa
