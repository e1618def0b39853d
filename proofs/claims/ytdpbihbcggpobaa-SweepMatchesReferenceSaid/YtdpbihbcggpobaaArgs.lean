/- Arguments that came in: a slice of segments, a point by value, as the walks want them. -/
import Derived.Test.YtdpbihbcggpobaaT12
import Derived.ProofKit
import Derived.OpenShut
import Derived.ShutString
import Derived.ChangeOld
import Derived.Deep.Slices
namespace Go.Proofs.Ytdpbihbcggpobaa
open Go.ChangeShapes Go.WideShapes Go.ChangeAt Go.RowKit Go.Deep

theorem cells34 : Try.prog.cellsOf 34 = 4 := by kernel_rfl
theorem cells32 : Try.prog.cellsOf 32 = 2 := by kernel_rfl
theorem cells3 : Try.prog.cellsOf 3 = 1 := by kernel_rfl

set_option maxRecDepth 100000 in
theorem pt_cells {H : Type} {enc : TypeId × Value → H} {w : World} {base : Nat} {sp : Nat → Bool} {held : Bool} {n : Nat} {cs : List Value} {x : DataW H × List MemPlace} (h : DataW.trod enc Try.prog w base sp held n 32 cs = some x) :
    ∃ a b : Int, cs = [.int .i64 a, .int .i64 b] := by
  obtain ⟨ys, m, _, _, hlen, hyl, hf⟩ := DataW.trod_struct Try.underlying32 h
  rw [cells32] at hlen
  have hyl' : ys.length = 2 := by simpa using hyl
  match cs, hlen with
  | [a0, a1], _ =>
    have h0 := hf 0 _ rfl
    have h1 := hf 1 _ rfl
    rw [List.getElem?_eq_getElem (by omega)] at h0 h1
    change DataW.trod _ _ _ _ _ _ _ 3 (List.take (Try.prog.cellsOf 3) _) = _ at h0
    change DataW.trod _ _ _ _ _ _ _ 3 (List.take (Try.prog.cellsOf 3) _) = _ at h1
    rw [cells3] at h0 h1
    obtain ⟨a, e0, _, _⟩ := DataW.trod_int Try.underlying3 h0
    obtain ⟨b, e1, _, _⟩ := DataW.trod_int Try.underlying3 h1
    simp at e0 e1
    subst e0 e1
    exact ⟨a, b, rfl⟩
set_option maxRecDepth 100000 in
theorem seg_cells {H : Type} {enc : TypeId × Value → H} {w : World} {base : Nat} {sp : Nat → Bool} {held : Bool} {n : Nat} {cs : List Value} {x : DataW H × List MemPlace} (h : DataW.trod enc Try.prog w base sp held n 34 cs = some x) :
    ∃ s : Sg, cs = sgCells s := by
  obtain ⟨ys, m, _, _, hlen, hyl, hf⟩ := DataW.trod_struct Try.underlying34 h
  rw [cells34] at hlen
  have hyl' : ys.length = 2 := by simpa using hyl
  match cs, hlen with
  | [a0, a1, a2, a3], _ =>
    have h0 := hf 0 _ rfl
    have h1 := hf 1 _ rfl
    rw [List.getElem?_eq_getElem (by omega)] at h0 h1
    change DataW.trod _ _ _ _ _ _ _ 32 (List.take (Try.prog.cellsOf 32) _) = _ at h0
    change DataW.trod _ _ _ _ _ _ _ 32 (List.take (Try.prog.cellsOf 32) _) = _ at h1
    rw [cells32] at h0 h1
    obtain ⟨a, b, e0⟩ := pt_cells h0
    obtain ⟨c, d, e1⟩ := pt_cells h1
    simp at e0 e1
    obtain ⟨rfl, rfl⟩ := e0
    obtain ⟨rfl, rfl⟩ := e1
    exact ⟨((a, b), (c, d)), rfl⟩

/-- A slice of segments that came in. -/
theorem open_segs {H : Type} {enc : TypeId × Value → H} {W : World} {sp : Nat → Bool} {held : Bool} {a0 : Option Addr} {len cap : Nat} {d : DataW H} {p : List MemPlace} (h : DataW.Trod enc Try.prog W 0 sp held 22 (.slice a0 len cap) d p)  :
    ∃ l : List Sg, SegsAt W (.slice a0 len cap) l ∧ l.length ≤ cap := by
  obtain ⟨fuel, hf⟩ := h
  rcases open_slice Try.underlying22 hf with ⟨hcs, _⟩ | ⟨a, len', cap', m, n, D, Pl, hcs, _, hl, hm, hmm, _, hi⟩
  · simp [Value.cells] at hcs
    obtain ⟨rfl, rfl, rfl⟩ := hcs
    exact ⟨[], ⟨none, 0, rfl, .inl rfl⟩, Nat.le_refl _⟩
  · simp [Value.cells] at hcs
    obtain ⟨rfl, rfl, rfl⟩ := hcs
    have hlm : len ≤ m := by rw [hmm]; split <;> omega
    have hall : ∀ i, i < len → ∃ s : Sg, ∀ j v, (sgCells s)[j]? = some v → W.cell? ((a.add (i * 4)).add j) = some v := by
      intro i hil
      obtain ⟨cs', hc, ht⟩ := hi i (by omega)
      rw [cells34] at hc
      obtain ⟨s, rfl⟩ := seg_cells ht
      obtain ⟨_, hcl, hat⟩ := World.cells?_some hc
      exact ⟨s, fun j v hv => by rw [hat j (by have := (List.getElem?_eq_some_iff.1 hv).1; omega)]; exact hv⟩
    obtain ⟨b, off, spot⟩ := a
    by_cases h0 : len = 0
    · subst h0
      exact ⟨[], ⟨_, cap, rfl, .inl rfl⟩, Nat.zero_le _⟩
    · obtain ⟨e0, hc0⟩ := hall 0 (by omega)
      have hc00 := hc0 0 _ rfl
      have hspot : spot = none := by simpa [Addr.add] using World.cell?_spot hc00
      subst hspot
      have hB : b < W.heap.size := by simpa [Addr.add] using World.block_lt_of_cell? W _ hc00
      let f : Nat → Sg := fun i => if hil : i < len then (hall i hil).choose else e0
      have hfs : ∀ i, i < len → ∀ j v, (sgCells (f i))[j]? = some v → W.cell? ⟨b, off + i * 4 + j, none⟩ = some v := by
        intro i hil
        have := (hall i hil).choose_spec
        simp only [f, dif_pos hil]
        intro j v hv
        have h1 := this j v hv
        rw [Go.WideShapes.add_plain, Go.WideShapes.add_plain] at h1
        exact h1
      refine ⟨(List.range len).map f, ⟨some ⟨b, off, none⟩, cap, by simp, .inr ⟨b, off, rfl, hB, fun i hi' => ?_⟩⟩, by simpa using hl⟩
      have hil : i < len := by simpa using hi'
      intro j v hv
      rw [show ((List.range len).map f)[i] = f i by simp] at hv
      exact hfs i hil j v hv

set_option maxRecDepth 100000 in
/-- A point that came in, by value. -/
theorem open_point {H : Type} {enc : TypeId × Value → H} {W : World} {r : Reach} {b0 : Nat} {sp : Nat → Bool} {held : Bool} {v : Value} {d : DataW H} {p : List MemPlace} (hv : Value.okWide Try.prog W r b0 32 v) (h : DataW.Trod enc Try.prog W 0 sp held 32 v d p) :
    ∃ a b : Int, v = .agg #[.int .i64 a, .int .i64 b] := by
  obtain ⟨cs, rfl, hsz⟩ := okWide_struct Try.underlying32 hv
  obtain ⟨fuel, hf⟩ := h
  obtain ⟨a, b, he⟩ := pt_cells hf
  refine ⟨a, b, ?_⟩
  simp [Value.cells] at he
  congr 1
  exact Array.toList_inj.1 he

end Go.Proofs.Ytdpbihbcggpobaa
