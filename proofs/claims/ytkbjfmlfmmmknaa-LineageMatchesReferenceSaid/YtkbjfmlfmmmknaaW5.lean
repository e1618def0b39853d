/- The walk of Now. -/
import Derived.Test.YtkbjfmlfmmmknaaW4
import Derived.Test.YtkbjfmlfmmmknaaIter
import Derived.OwnWalkIn
import Derived.TacticsInMore
namespace Go.Proofs.Ytkbjfmlfmmmknaa
open Go.RowKit Go.Maps Go.WideMaps Go.ChangeMaps Go.Sort

theorem sortC : SortC := ⟨fun blk off cap ss W hH hblk hsz => AnyM.slices_Sort_string Try.sort39 blk off cap ss W hH hblk hsz, fun p cap W => AnyM.slices_Sort_string_none Try.sort39 p cap W⟩

theorem strKeys_of {w : World} {R : Value → Option (DataW Unit × List MemPlace)} {b n : Nat} {D : DataW Unit} (h : w.ownsMap Try.prog 9 R b n D) : (strKeys D).Nodup ∧ ∀ k, k ∈ strKeys D ↔ has D (.string k) = true := by
  obtain ⟨es, rfl, hk⟩ := h.keysOf
  obtain ⟨es', he, hp⟩ := h.tidy K9
  cases he
  have hk' : ∀ p ∈ es, ∃ x, p.1 = .string x := fun p hp' => by
    obtain ⟨v, hv⟩ := hk p hp'
    obtain ⟨x, _, hx, _⟩ := keyOf_str Try.underlying9 hv
    exact ⟨x, hx⟩
  constructor
  · show (es.map fun p => strOf p.1).Nodup
    refine List.pairwise_map.2 (hp.imp_of_mem fun {p q} hp' hq' hne e => hne ?_)
    obtain ⟨a, ha⟩ := hk' p hp'
    obtain ⟨b, hb⟩ := hk' q hq'
    rw [ha, hb] at e ⊢
    exact congrArg _ e
  · intro k
    show k ∈ es.map (fun p => strOf p.1) ↔ _
    rw [has_eq, List.any_eq_true, List.mem_map]
    constructor
    · rintro ⟨p, hp', rfl⟩
      obtain ⟨a, ha⟩ := hk' p hp'
      exact ⟨p, hp', by rw [ha]; simp [Lit.sameKey, strOf]⟩
    · rintro ⟨p, hp', hs⟩
      obtain ⟨a, ha⟩ := hk' p hp'
      rw [ha] at hs
      exact ⟨p, hp', by rw [ha]; simpa [Lit.sameKey, strOf] using hs⟩

theorem now_nil (w : World) (s : ByteArray) : Calls Try.prog 17 #[.pointer none, .string s] w fun e w' => e = .returned (.slice none 0 0) ∧ w = w' := by
  go_enter Try.func17, Try.ntmps17
  go_wp2
  go_ret
  exact ⟨rfl, rfl⟩

theorem now_fin {w W1 W2 : World} {b n : Nat} {S : Key → Bool} {D : DataW Unit} {v : Value} {ss : List Key} (hg : w.grownBy W1 none) (hown : W1.ownsMap Try.prog 9 (plainElem Try.prog 4) b n D) (hhas : ∀ k, has D (.string k) = S k)
    (hp : ss.Perm (strKeys D)) (hrow : W2.ownsRow (W1.alloc (.cells #[.map (some b)] 60)).heap.size 9 1 v ss.length ((ss.mergeSort leB).map encStr)) (hb : Below (W1.alloc (.cells #[.map (some b)] 60)).heap.size (W1.alloc (.cells #[.map (some b)] 60)) W2) (hn : n ≤ 1000000) :
    ListPost w (fun k => S k = true) (.returned v) W2 := by
  obtain ⟨hnd, hmem⟩ := strKeys_of hown
  have hlen : ss.length ≤ n := by
    have h1 := hp.length_eq
    obtain ⟨es, rfl, _⟩ := hown.keysOf
    have h2 := hown.size_le
    have h3 : (strKeys (DataW.map es)).length = size (DataW.map es) := by show (es.map _).length = es.length; simp
    omega
  have hl : (ss.mergeSort leB).length = ss.length := by simp
  rw [← hl] at hrow
  have hsz := hg.size
  refine ⟨v, ss.mergeSort leB, rfl, SL_of_own hrow (by omega), sorted_strict (hp.nodup_iff.2 hnd), fun k => ?_, ?_, fun g hg' => ?_⟩
  · rw [List.mem_mergeSort, hp.mem_iff, hmem, hhas]
  · exact (((Below.refl w.heap.size w).grown hg (Nat.le_refl _) (by simp)).alloc hsz _).trans (hb.mono (by simp; omega))
  · have := (hrow.lt g hg').1
    simp at this; omega

set_option maxHeartbeats 2000000 in
theorem now_any (w : World) (x n : Nat) (F : Nat → Prop) (st : St) (s : ByteArray) (h : Lin w x F n st) (hn : n < 900000) (hs : s.size ≤ maxLen) :
    Calls Try.prog 17 #[.pointer (some ⟨x, 0, none⟩), .string s] w (ListPost w fun k => ofS st s.data.toList k = true) := by
  obtain ⟨bo, D, blk, hL⟩ := h
  have hof := of_any w x n bo F st D blk s hL hs
  clear hL
  generalize ofS st s.data.toList = S at *
  refine (callsIn_wide (n := 6)).1 ?_
  have hfO : Fence.wide.fn 29 := trivial
  have hfK : Fence.wide.fn 37 := trivial
  have hfS : Fence.wide.fn 36 := trivial
  refine callsIn_of_wp Try.func17 rfl trivial ?_ rfl
  simp only [Try.ntmps17, List.size_toArray, List.length_cons, List.length_nil, Nat.reduceAdd, Nat.reduceSub, Array.replicate_succ, Array.replicate_zero, List.push_toArray, List.append_toArray, List.nil_append, List.cons_append]
  gi_wp2_with (first
    | (gi_at_call 29; refine (callsIn_wide.2 hof).mono ?_; rintro e W1 ⟨b, rfl, ⟨D, hown, hhas, hat⟩, hg⟩; have HG := Lib.hid hg; have HH := Lib.hid hhas; have HO := Lib.hid hown; have HSZ := Lib.hid hown.size_le; clear hg hhas hat hown)
    | (gi_at_call 37; refine (Try.maps_Keys_37 _ _).mono ?_; rintro e w' ⟨rfl, rfl⟩)
    | (gi_at_call 36; refine (Try.slices_Sorted_keys_36_37 _ _ _ _ W1 HO.out (by have := HSZ.out; unfold maxLen; omega) (by have := HSZ.out; omega)).mono ?_; rintro e w' ⟨v, ss, rfl, hS, hrow, hnil, hb⟩))
  go_ret
  exact now_fin HG.out HO.out HH.out hS hrow hb (by omega)

end Go.Proofs.Ytkbjfmlfmmmknaa
