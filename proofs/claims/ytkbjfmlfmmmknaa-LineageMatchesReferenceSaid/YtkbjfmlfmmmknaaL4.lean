/- Slices at hand, their values written out; the order of their strings; the tests on lengths. -/
import Derived.Test.YtkbjfmlfmmmknaaHd
import Derived.Deep.QuietTactic
import Derived.BigQuiet
import Derived.Sort.Walk0
namespace Go.Proofs.Ytkbjfmlfmmmknaa
open Go.RowKit Go.Maps Go.WideMaps Go.ChangeMaps Go.Sort

theorem SL.shape {w : World} {v : Value} {ks : List Key} (h : SL w v (ks.map toB)) : ∃ A c, v = .slice A ks.length c ∧ ks.length ≤ 1000000 ∧ (0 < ks.length → ∃ g, A = some ⟨g, 0, none⟩ ∧ SLat w g (ks.map toB)) := by
  have hl := h.1
  rw [List.length_map] at hl
  rcases h.2 with ⟨rfl, h0⟩ | ⟨g, cap, rfl, h1⟩
  · have : ks = [] := by simpa using h0
    subst this
    exact ⟨none, 0, rfl, hl, fun h => absurd h (by simp)⟩
  · exact ⟨some ⟨g, 0, none⟩, cap, by rw [List.length_map], hl, fun _ => ⟨g, rfl, h1⟩⟩

section
variable {w0 w : World} {n x y : Nat} {st st' : St} {held : List (Value × List ByteArray)} {v : Value} {ks : List Key}
theorem Env1.shape (h : Env1 w0 w n x st held) (hv : (v, ks.map toB) ∈ held) : ∃ A c, v = .slice A ks.length c ∧ ks.length ≤ 1000000 ∧ (0 < ks.length → ∃ g, A = some ⟨g, 0, none⟩ ∧ SLat w g (ks.map toB)) := (h.sl hv).shape
theorem Env2.shape (h : Env2 w0 w n x st y st' held) (hv : (v, ks.map toB) ∈ held) : ∃ A c, v = .slice A ks.length c ∧ ks.length ≤ 1000000 ∧ (0 < ks.length → ∃ g, A = some ⟨g, 0, none⟩ ∧ SLat w g (ks.map toB)) := (h.sl hv).shape
end

theorem SLat.at_ {w : World} {g : Nat} {ks : List Key} (h : SLat w g (ks.map toB)) {k : Nat} (hk : k < ks.length) : w.cell? ⟨g, k, none⟩ = some (.string (toB ks[k])) := by
  rw [h.cell k (by simpa using hk), List.getElem?_map, List.getElem?_eq_getElem hk]
  rfl

/-- What an order that rises says of two neighbours, in the walk's spelling. -/
theorem rise_less {ks : List Key} (hp : ks.Pairwise (· < ·)) {k : Nat} (h1 : 1 ≤ k) (hk : k < ks.length) : Op.bytesLess (toB (ks[k - 1]'(by omega))).toList (toB ks[k]).toList = true := by
  have := List.pairwise_iff_getElem.1 hp (k - 1) k (by omega) hk (by omega)
  simp only [toB, ByteArray.toList_eq, bytesLess_eq, decide_eq_true_eq]
  simpa using this

theorem toB_data (k : Key) : (toB k).data.toList = k := by simp [toB]
theorem toB_of (b : ByteArray) : toB b.data.toList = b := by cases b; simp [toB]
theorem mem_toB {ks : List Key} {s : ByteArray} : s ∈ ks.map toB ↔ s.data.toList ∈ ks := by
  rw [List.mem_map]
  constructor
  · rintro ⟨k, hk, rfl⟩; rw [toB_data]; exact hk
  · intro h; exact ⟨_, h, toB_of s⟩

end Go.Proofs.Ytkbjfmlfmmmknaa
