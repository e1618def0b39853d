/- Arguments that came in: a slice of edits, an edit by value, as the walks want them. -/
import Derived.Test.YtkbjfmlfmmmknaaL1
import Derived.ProofKit
import Derived.OpenShut
import Derived.ShutString
import Derived.ChangeOld
import Derived.Deep.Slices
namespace Go.Proofs.Ytkbjfmlfmmmknaa
open Go.ChangeShapes Go.WideShapes Go.ChangeAt Go.RowKit Go.Deep

theorem cells38 : Try.prog.cellsOf 38 = 15 := by kernel_rfl
theorem cells36 : Try.prog.cellsOf 36 = 6 := by kernel_rfl
theorem cells9 : Try.prog.cellsOf 9 = 1 := by kernel_rfl
theorem cells3 : Try.prog.cellsOf 3 = 1 := by kernel_rfl

/-- The cells of an edit that was read. -/
theorem edit_cells {H : Type} {enc : TypeId × Value → H} {w : World} {base : Nat} {sp : Nat → Bool} {held : Bool} {n : Nat} {cs : List Value} {x : DataW H × List MemPlace} (h : DataW.trod enc Try.prog w base sp held n 38 cs = some x) :
    ∃ e : EdC, cs = e.cells ∧ e.ok := by
  obtain ⟨ys, m, _, _, hlen, hyl, hf⟩ := DataW.trod_struct Try.underlying38 h
  rw [cells38] at hlen
  have hyl' : ys.length = 9 := by simpa using hyl
  match cs, hlen with
  | [a0, a1, a2, a3, a4, a5, a6, a7, a8, a9, a10, a11, a12, a13, a14], _ =>
    have h0 := hf 0 _ rfl
    have h1 := hf 1 _ rfl
    have h2 := hf 2 _ rfl
    have h8 := hf 8 _ rfl
    rw [List.getElem?_eq_getElem (by omega)] at h0 h1 h2 h8
    change DataW.trod _ _ _ _ _ _ _ 3 (List.take (Try.prog.cellsOf 3) _) = _ at h0
    change DataW.trod _ _ _ _ _ _ _ 9 (List.take (Try.prog.cellsOf 9) _) = _ at h1
    change DataW.trod _ _ _ _ _ _ _ 9 (List.take (Try.prog.cellsOf 9) _) = _ at h2
    change DataW.trod _ _ _ _ _ _ _ 36 (List.take (Try.prog.cellsOf 36) _) = _ at h8
    rw [cells3] at h0
    rw [cells9] at h1 h2
    rw [cells36] at h8
    obtain ⟨op, e0, _, _⟩ := DataW.trod_int Try.underlying3 h0
    obtain ⟨id, e1, _, s1⟩ := DataW.trod_string Try.underlying9 h1
    obtain ⟨other, e2, _, s2⟩ := DataW.trod_string Try.underlying9 h2
    obtain ⟨zs, m', _, _, _, hzl, hg⟩ := DataW.trod_struct Try.underlying36 h8
    have hzl' : zs.length = 5 := by simpa using hzl
    have h9 := hg 0 _ rfl
    rw [List.getElem?_eq_getElem (by omega)] at h9
    change DataW.trod _ _ _ _ _ _ _ 9 (List.take (Try.prog.cellsOf 9) _) = _ at h9
    rw [cells9] at h9
    obtain ⟨obj, e9, _, s9⟩ := DataW.trod_string Try.underlying9 h9
    simp at e0 e1 e2 e9
    subst e0 e1 e2 e9
    exact ⟨⟨op, id, other, obj, a3, a4, a5, a6, a7, a8, a10, a11, a12, a13, a14⟩, rfl, s1, s2, s9⟩

/-- A slice of edits that came in. -/
theorem open_eds {H : Type} {enc : TypeId × Value → H} {W : World} {sp : Nat → Bool} {held : Bool} {a0 : Option Addr} {len cap : Nat} {d : DataW H} {p : List MemPlace} (h : DataW.Trod enc Try.prog W 0 sp held 22 (.slice a0 len cap) d p)  :
    ∃ es, Eds W (.slice a0 len cap) es := by
  obtain ⟨fuel, hf⟩ := h
  rcases open_slice Try.underlying22 hf with ⟨hcs, _⟩ | ⟨a, len', cap', m, n, D, Pl, hcs, _, hl, hm, hmm, _, hi⟩
  · simp [Value.cells] at hcs
    obtain ⟨rfl, rfl, rfl⟩ := hcs
    refine ⟨[], ?_⟩
    unfold Eds
    exact ⟨fun e he => (by cases he), none, 0, rfl, Nat.le_refl _, Nat.zero_le _, fun h => absurd h (by simp)⟩
  · simp [Value.cells] at hcs
    obtain ⟨rfl, rfl, rfl⟩ := hcs
    have hlm : len ≤ m := by rw [hmm]; split <;> omega
    have hall : ∀ i, i < len → ∃ e : EdC, e.ok ∧ ∀ j v, e.cells[j]? = some v → W.cell? ((a.add (i * 15)).add j) = some v := by
      intro i hil
      obtain ⟨cs', hc, ht⟩ := hi i (by omega)
      rw [cells38] at hc
      obtain ⟨e, rfl, hok⟩ := edit_cells ht
      obtain ⟨_, hcl, hat⟩ := World.cells?_some hc
      exact ⟨e, hok, fun j v hv => by rw [hat j (by have := (List.getElem?_eq_some_iff.1 hv).1; omega)]; exact hv⟩
    obtain ⟨b, off, spot⟩ := a
    by_cases h0 : len = 0
    · subst h0
      refine ⟨[], ?_⟩
      unfold Eds
      exact ⟨fun e he => (by cases he), _, cap, rfl, Nat.zero_le _, hm, fun h => absurd h (by simp)⟩
    · obtain ⟨e0, _, hc0⟩ := hall 0 (by omega)
      have hc00 := hc0 0 _ rfl
      have hspot : spot = none := by simpa [Addr.add] using World.cell?_spot hc00
      subst hspot
      have hB : b < W.heap.size := by simpa [Addr.add] using World.block_lt_of_cell? W _ hc00
      let f : Nat → EdC := fun i => if hil : i < len then (hall i hil).choose else e0
      have hfs : ∀ i, i < len → (f i).ok ∧ ∀ j v, (f i).cells[j]? = some v → W.cell? ⟨b, off + i * 15 + j, none⟩ = some v := by
        intro i hil
        have := (hall i hil).choose_spec
        simp only [f, dif_pos hil]
        refine ⟨this.1, fun j v hv => ?_⟩
        have h1 := this.2 j v hv
        rw [Go.WideShapes.add_plain, Go.WideShapes.add_plain] at h1
        exact h1
      refine ⟨(List.range len).map f, fun e he => ?_, some ⟨b, off, none⟩, cap, by simp, by simpa using hl, hm, fun _ => ⟨b, off, rfl, hB, fun i e he => ?_⟩⟩
      · obtain ⟨i, hi', rfl⟩ := List.mem_map.1 he
        exact (hfs i (by simpa using hi')).1
      · have hil : i < len := by have := (List.getElem?_eq_some_iff.1 he).1; simpa using this
        have : e = f i := by simpa [hil] using he.symm
        subst this
        exact fun j v hv => (hfs i hil).2 j v hv

/-- An edit that came in, by value. -/
theorem open_edit {H : Type} {enc : TypeId × Value → H} {W : World} {r : Reach} {b0 : Nat} {sp : Nat → Bool} {held : Bool} {v : Value} {d : DataW H} {p : List MemPlace} (hv : Value.okWide Try.prog W r b0 38 v) (h : DataW.Trod enc Try.prog W 0 sp held 38 v d p) :
    ∃ e : EdC, v = e.val ∧ e.ok := by
  obtain ⟨cs, rfl, hsz⟩ := okWide_struct Try.underlying38 hv
  obtain ⟨fuel, hf⟩ := h
  obtain ⟨e, he, hok⟩ := edit_cells hf
  refine ⟨e, ?_, hok⟩
  unfold EdC.val
  rw [← he]
  simp [Value.cells]

end Go.Proofs.Ytkbjfmlfmmmknaa
