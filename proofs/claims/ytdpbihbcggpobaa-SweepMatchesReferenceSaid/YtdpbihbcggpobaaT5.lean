/- The sort's contracts at the sweep's items and at its meetings. -/
import Derived.Test.YtdpbihbcggpobaaT4
namespace Go.Proofs.Ytdpbihbcggpobaa
open Go.Sort Go.Lib

theorem orI_lt (x y : Int) : orI x y < 0 ↔ x < 0 ∨ (x = 0 ∧ y < 0) := by unfold orI; split <;> omega

/-- Items whose index is not large. -/
abbrev ItS := {a : It // a.ix ≤ 1000000}
instance : Inhabited ItS := ⟨⟨⟨0, ((0, 0), (0, 0))⟩, by decide⟩⟩
abbrev MtS := {m : Mt // m.1 ≤ 1000000 ∧ m.2.1 ≤ 1000000}
instance : Inhabited MtS := ⟨⟨(0, 0, 0), by decide⟩⟩

theorem lt_It (a b : It) : cfI a b < 0 ↔ a.xl < b.xl ∨ (a.xl = b.xl ∧ a.ix < b.ix) := by
  unfold cfI; rw [orI_lt, cmpI_lt, cmpI_eq]; omega
theorem lt_Mt (a b : Mt) : cfM a b < 0 ↔ Mlt a b := by
  unfold cfM Mlt; rw [orI_lt]; omega
theorem swoIt : SWO (ltOf fun a b : ItS => cfI a.1 b.1) where
  irrefl x := by simp only [ltOf, lt_It, decide_eq_false_iff_not]; omega
  trans x y z h1 h2 := by simp only [ltOf, lt_It, decide_eq_true_eq] at *; omega
  ntrans x y z h1 h2 := by simp only [ltOf, lt_It, decide_eq_false_iff_not] at *; omega
theorem swoMt : SWO (ltOf fun a b : MtS => cfM a.1 b.1) where
  irrefl x := by simp only [ltOf, lt_Mt, decide_eq_false_iff_not]; unfold Mlt; omega
  trans x y z h1 h2 := by simp only [ltOf, lt_Mt, decide_eq_true_eq] at *; exact h1.trans h2
  ntrans x y z h1 h2 := by simp only [ltOf, lt_Mt, decide_eq_false_iff_not] at *; unfold Mlt at *; omega

theorem laid3_grow {W w' : World} {n : Int} {e : Ending} (h : Laid3 n W e w') : e = .returned (.int .i64 n) ∧ ∃ q os', w' = grow (W.drewN q) os' := by
  obtain ⟨he, q, o1, o2, o3, rfl⟩ := h
  refine ⟨he, q, #[o1] ++ #[o2] ++ #[o3], ?_⟩
  rw [alloc_eq_grow, alloc_eq_grow, alloc_eq_grow, grow_grow, grow_grow]
  simp only [Array.append_assoc]
  rfl

theorem laysIt (blk off size : Nat) (w : World) : CmpLays Try.prog 20 #[] (fun a : ItS => itCells a.1) 9 (fun a b => cfI a.1 b.1) blk off size w :=
  fun _ _ _ _ x y => (cmpIt_any x.1 y.1 _ x.2 y.2).mono fun _ _ h => laid3_grow h
theorem laysMt (blk off size : Nat) (w : World) : CmpLays Try.prog 27 #[] (fun a : MtS => mtCells a.1) 3 (fun a b => cfM a.1 b.1) blk off size w :=
  fun _ _ _ _ x y => (cmpM_any x.1 y.1 _ x.2 y.2).mono fun _ _ h => laid3_grow h

theorem itCells_len (a : It) : (itCells a).length = 9 := rfl
theorem mtCells_len (m : Mt) : (mtCells m).length = 3 := rfl
theorem itCells_one (a : It) : ∀ v ∈ itCells a, v.oneCell' = true := by
  intro v hv
  simp only [itCells, List.mem_cons, List.not_mem_nil, or_false] at hv
  rcases hv with rfl | rfl | rfl | rfl | rfl | rfl | rfl | rfl | rfl <;> rfl
theorem mtCells_one (m : Mt) : ∀ v ∈ mtCells m, v.oneCell' = true := by
  intro v hv
  simp only [mtCells, List.mem_cons, List.not_mem_nil, or_false] at hv
  rcases hv with rfl | rfl | rfl <;> rfl

section
variable {α : Type} [Inhabited α]
theorem holdsK_own {enc : α → List Value} {k : Nat} (hk : ∀ x, (enc x).length = k) (h0 : 0 < k) {w : World} {base g cap n : Nat} {e : TypeId} {d : Array α} (hd : d.size = n)
    (h : w.ownsRow base e k (.slice (some ⟨g, 0, none⟩) n cap) n (d.toList.flatMap enc)) : HoldsK enc k w g 0 d := by
  rcases h.2 with ⟨h1, _⟩ | ⟨g', cap', cur, h1, hbase, hb, c1, c2, c3, c4⟩
  · cases h1
  · cases h1
    intro j hj
    have hj' : j < n * k := by rw [size_flatK, hd] at hj; exact hj
    have hjc : j < cur.size := by rw [c3]; exact Nat.lt_of_lt_of_le hj' (Nat.mul_le_mul_right _ c1)
    refine ⟨?_, by simp [World.frozen?, hb]⟩
    rw [Nat.zero_add, cell_of_row w g j cur e (0, 0) hb]
    have h1 : (cur.toList.take (n * k))[j]? = (flatK enc k d).toList[j]? := by rw [c4, flatK_list enc k hk h0]
    rw [List.getElem?_take_of_lt hj', Array.getElem?_toList, Array.getElem?_toList, Array.getElem?_eq_getElem hjc, Array.getElem?_eq_getElem hj] at h1
    rw [Array.getElem?_eq_getElem hjc, h1, getElem!_pos _ j hj]
    rfl
end

theorem own_form {w : World} {base n : Nat} {e : TypeId} {size : Nat} {v : Value} {xs : List Value} (h : w.ownsRow base e size v n xs) : (∃ A c, v = .slice A n c ∧ n = 0) ∨ (∃ g cap, v = .slice (some ⟨g, 0, none⟩) n cap ∧ 0 < n) := by
  rcases h.2 with ⟨rfl, rfl⟩ | ⟨g, cap, cur, rfl, _⟩
  · exact .inl ⟨_, _, rfl, rfl⟩
  · by_cases h0 : n = 0
    · exact .inl ⟨_, _, rfl, h0⟩
    · exact .inr ⟨g, cap, rfl, by omega⟩
theorem own_lt {w : World} {base n g cap : Nat} {e : TypeId} {size : Nat} {xs : List Value} (h : w.ownsRow base e size (.slice (some ⟨g, 0, none⟩) n cap) n xs) : g < w.heap.size := by
  rcases h.2 with ⟨h1, _⟩ | ⟨g', cap', cur, h1, _, hb, _⟩
  · cases h1
  · cases h1; exact (Array.getElem?_eq_some_iff.1 hb).1

theorem pmap_back {β : Type} {p : β → Prop} (l : List β) (hl : ∀ a ∈ l, p a) : ((l.pmap (fun a h => (⟨a, h⟩ : {a // p a})) hl).toArray.toList.map fun x => x.1) = l := by
  show (l.pmap (fun a h => (⟨a, h⟩ : {a // p a})) hl).map (fun x => x.1) = l
  rw [List.map_pmap]
  induction l with
  | nil => rfl
  | cons a l ih => rw [List.pmap_cons, ih]

def SortedIts (w : World) (base : Nat) (v : Value) (l : List It) (e : Ending) (w' : World) : Prop :=
  e = .returned (.tuple #[]) ∧ ∃ l' : List It, l'.Perm l ∧ (∀ i j (_ : i < j) (hj : j < l'.length), l'[i].xl ≤ l'[j].xl) ∧ w'.ownsRow base 49 9 v l'.length (l'.flatMap itCells) ∧ w.grownBy w' v.ownBlock

theorem sortIt_any (w : World) (base : Nat) (v : Value) (l : List It) (hl : ∀ a ∈ l, a.ix ≤ 1000000) (hn : l.length ≤ 1000000) (hown : w.ownsRow base 49 9 v l.length (l.flatMap itCells)) :
    Calls Try.prog 19 #[v, .func (.func 20) #[] #[]] w (SortedIts w base v l) := by
  rcases own_form hown with ⟨A, c, rfl, h0⟩ | ⟨g, cap, rfl, h0⟩
  · obtain rfl := List.eq_nil_of_length_eq_zero h0
    have h := AnyF.slices_SortFunc_none { Try.sortItems with } A c (.func (.func 20) #[] #[]) w
    change Calls Try.prog 19 _ _ _ at h
    refine h.mono ?_
    rintro e w' ⟨rfl, rfl⟩
    exact ⟨rfl, [], List.Perm.refl _, fun i j _ hj => absurd hj (by simp), hown, World.grownBy.refl _ _⟩
  · obtain ⟨d, hd⟩ : ∃ d : Array ItS, d.toList.map (·.1) = l := ⟨(l.pmap (fun a h => (⟨a, h⟩ : ItS)) hl).toArray, pmap_back l hl⟩
    have hsz : d.size = l.length := by rw [← hd]; simp
    have hfl : l.flatMap itCells = d.toList.flatMap (fun a : ItS => itCells a.1) := by rw [← hd, List.flatMap_map]
    rw [hfl] at hown
    have eg : ∀ args w, (callFunc 20 args).run Try.prog w = .ok (.enter 20 args) w := enters_of Try.func20 (by kernel_rfl) rfl
    have hcon := AnyQ.slices_SortFunc Try.sortItems 9 Try.isAgg49 Try.sizeOf49 (fun a : ItS => itCells a.1) (fun a => itCells_len a.1) (fun a => itCells_one a.1) (fun a b => cfI a.1 b.1) swoIt 20 #[] g 0 cap d w eg (laysIt g 0 d.size w)
      (holdsK_own (fun a => itCells_len a.1) (by decide) hsz hown) (own_lt hown) (by omega)
    change Calls Try.prog 19 _ _ _ at hcon
    rw [hsz] at hcon
    refine hcon.mono ?_
    rintro e w' ⟨rfl, d', n, os, hp, hs, rfl⟩
    have hsz' : d'.size = l.length := by rw [hp.1, hsz]
    obtain ⟨r1, r2⟩ := sorted_row (os := os) (m := n) (fun a : ItS => itCells_len a.1) (by decide) hsz' hown
    have hperm : d'.toList.Perm d.toList := by
      have := hp.2.2
      rw [show l.length = d.size from hsz.symm] at this
      rw [Array.extract_size] at this
      rw [show d.size = d'.size from by rw [hsz, hsz'], Array.extract_size] at this
      exact this
    refine ⟨rfl, d'.toList.map (·.1), ?_, ?_, ?_, r2⟩
    · rw [← hd]; exact hperm.map _
    · intro i j hij hj
      have hj' : j < d'.size := by simpa using hj
      have := hs i j (Nat.zero_le _) hij (by rw [← hsz']; exact hj')
      rw [getElem!_pos d' j hj', getElem!_pos d' i (by omega)] at this
      simp only [ltOf, decide_eq_false_iff_not, lt_It] at this
      simp only [List.getElem_map, Array.getElem_toList]
      omega
    · have e : (d'.toList.map (·.1)).length = l.length := by simp [hsz']
      rw [e, List.flatMap_map]
      exact r1

def SortedMts (w : World) (base : Nat) (v : Value) (l : List Mt) (e : Ending) (w' : World) : Prop :=
  e = .returned (.tuple #[]) ∧ ∃ l' : List Mt, l'.Perm l ∧ (∀ i j (_ : i < j) (hj : j < l'.length), ¬ Mlt l'[j] l'[i]) ∧ w'.ownsRow base 36 3 v l'.length (l'.flatMap mtCells) ∧ w.grownBy w' v.ownBlock

theorem sortMt_any (w : World) (base : Nat) (v : Value) (l : List Mt) (hl : ∀ a ∈ l, a.1 ≤ 1000000 ∧ a.2.1 ≤ 1000000) (hn : l.length ≤ 1000000000) (hown : w.ownsRow base 36 3 v l.length (l.flatMap mtCells)) :
    Calls Try.prog 26 #[v, .func (.func 27) #[] #[]] w (SortedMts w base v l) := by
  rcases own_form hown with ⟨A, c, rfl, h0⟩ | ⟨g, cap, rfl, h0⟩
  · obtain rfl := List.eq_nil_of_length_eq_zero h0
    have h := AnyF.slices_SortFunc_none { Try.sortMeets with } A c (.func (.func 27) #[] #[]) w
    change Calls Try.prog 26 _ _ _ at h
    refine h.mono ?_
    rintro e w' ⟨rfl, rfl⟩
    exact ⟨rfl, [], List.Perm.refl _, fun i j _ hj => absurd hj (by simp), hown, World.grownBy.refl _ _⟩
  · obtain ⟨d, hd⟩ : ∃ d : Array MtS, d.toList.map (·.1) = l := ⟨(l.pmap (fun a h => (⟨a, h⟩ : MtS)) hl).toArray, pmap_back l hl⟩
    have hsz : d.size = l.length := by rw [← hd]; simp
    have hfl : l.flatMap mtCells = d.toList.flatMap (fun a : MtS => mtCells a.1) := by rw [← hd, List.flatMap_map]
    rw [hfl] at hown
    have eg : ∀ args w, (callFunc 27 args).run Try.prog w = .ok (.enter 27 args) w := enters_of Try.func27 (by kernel_rfl) rfl
    have hcon := AnyQ.slices_SortFunc Try.sortMeets 3 Try.isAgg36 Try.sizeOf36 (fun a : MtS => mtCells a.1) (fun a => mtCells_len a.1) (fun a => mtCells_one a.1) (fun a b => cfM a.1 b.1) swoMt 27 #[] g 0 cap d w eg (laysMt g 0 d.size w)
      (holdsK_own (fun a => mtCells_len a.1) (by decide) hsz hown) (own_lt hown) (by omega)
    change Calls Try.prog 26 _ _ _ at hcon
    rw [hsz] at hcon
    refine hcon.mono ?_
    rintro e w' ⟨rfl, d', n, os, hp, hs, rfl⟩
    have hsz' : d'.size = l.length := by rw [hp.1, hsz]
    obtain ⟨r1, r2⟩ := sorted_row (os := os) (m := n) (fun a : MtS => mtCells_len a.1) (by decide) hsz' hown
    have hperm : d'.toList.Perm d.toList := by
      have := hp.2.2
      rw [show l.length = d.size from hsz.symm] at this
      rw [Array.extract_size] at this
      rw [show d.size = d'.size from by rw [hsz, hsz'], Array.extract_size] at this
      exact this
    refine ⟨rfl, d'.toList.map (·.1), ?_, ?_, ?_, r2⟩
    · rw [← hd]; exact hperm.map _
    · intro i j hij hj
      have hj' : j < d'.size := by simpa using hj
      have := hs i j (Nat.zero_le _) hij (by rw [← hsz']; exact hj')
      rw [getElem!_pos d' j hj', getElem!_pos d' i (by omega)] at this
      simp only [ltOf, decide_eq_false_iff_not, lt_Mt] at this
      simp only [List.getElem_map, Array.getElem_toList]
      exact this
    · have e : (d'.toList.map (·.1)).length = l.length := by simp [hsz']
      rw [e, List.flatMap_map]
      exact r1

end Go.Proofs.Ytdpbihbcggpobaa
