/- The reference's lineage in memory: two slices behind a pointer; the walk of its pair. -/
import Derived.Test.YtkbjfmlfmmmknaaW4
import Derived.Test.YtkbjfmlfmmmknaaPureRef
namespace Go.Proofs.Ytkbjfmlfmmmknaa
open Go.RowKit Go.Maps Go.WideMaps Go.ChangeMaps Go.Sort

def encP (p : Key × Key) : List Value := [.string (toB p.1), .string (toB p.2)]

/-- Block g holds pairs of strings, in this order. -/
structure PLat (w : World) (g : Nat) (ps : List (Key × Key)) : Prop where
  lt : g < w.heap.size
  fst : ∀ i (h : i < ps.length), w.cell? ⟨g, i * 2, none⟩ = some (.string (toB ps[i].1))
  snd : ∀ i (h : i < ps.length), w.cell? ⟨g, i * 2 + 1, none⟩ = some (.string (toB ps[i].2))

/-- A slice of these pairs: the nil one, or one whose array begins a block. -/
def PL (w : World) (v : Value) (ps : List (Key × Key)) : Prop := ps.length ≤ 1000000 ∧ ((v = .slice none 0 0 ∧ ps = []) ∨ ∃ g cap, v = .slice (some ⟨g, 0, none⟩) ps.length cap ∧ PLat w g ps)

theorem PLat.turn {w w' : World} {g : Nat} {ps : List (Key × Key)} {F : Nat → Prop} (h : PLat w g ps) (ht : Turn F w w') (hg : ¬ F g) : PLat w' g ps :=
  ⟨Nat.lt_of_lt_of_le h.lt ht.size, fun i hi => (World.cell?_of_block (a := ⟨g, i * 2, none⟩) (ht.block g h.lt hg)).trans (h.fst i hi), fun i hi => (World.cell?_of_block (a := ⟨g, i * 2 + 1, none⟩) (ht.block g h.lt hg)).trans (h.snd i hi)⟩
theorem PL.turn {w w' : World} {v : Value} {ps : List (Key × Key)} {F : Nat → Prop} (h : PL w v ps) (ht : Turn F w w') (hg : ∀ g, v.ownBlock = some g → ¬ F g) : PL w' v ps := by
  refine ⟨h.1, ?_⟩
  rcases h.2 with h0 | ⟨g, cap, rfl, h1⟩
  · exact .inl h0
  · exact .inr ⟨g, cap, rfl, h1.turn ht (hg g rfl)⟩
theorem PL.lt {w : World} {v : Value} {ps : List (Key × Key)} (h : PL w v ps) : ∀ g, v.ownBlock = some g → g < w.heap.size := by
  intro g hg
  rcases h.2 with ⟨rfl, _⟩ | ⟨g', cap, rfl, h1⟩
  · simp [Value.ownBlock] at hg
  · simp [Value.ownBlock] at hg; subst hg; exact h1.lt
theorem PL.shape {w : World} {v : Value} {ps : List (Key × Key)} (h : PL w v ps) : ∃ A c, v = .slice A ps.length c ∧ ps.length ≤ 1000000 ∧ (0 < ps.length → ∃ g, A = some ⟨g, 0, none⟩ ∧ PLat w g ps) := by
  rcases h.2 with ⟨rfl, rfl⟩ | ⟨g, cap, rfl, h1⟩
  · exact ⟨none, 0, rfl, h.1, fun h => absurd h (by simp)⟩
  · exact ⟨some ⟨g, 0, none⟩, cap, rfl, h.1, fun _ => ⟨g, rfl, h1⟩⟩

/-- At block y stands the reference's lineage: its pairs and what it mentions. -/
structure RLin (w : World) (y : Nat) (vp vm : Value) (r : RS) : Prop where
  yc : w.heap[y]? = some (.cells #[vp, vm] 58 (0, 0))
  p : PL w vp r.ps
  m : SL w vm (r.ms.map toB)
  py : ∀ g, vp.ownBlock = some g → g ≠ y
  my : ∀ g, vm.ownBlock = some g → g ≠ y

theorem RLin.c0 {w : World} {y : Nat} {vp vm : Value} {r : RS} (h : RLin w y vp vm r) : w.cell? ⟨y, 0, none⟩ = some vp := by simp [World.cell?, h.yc]
theorem RLin.c1 {w : World} {y : Nat} {vp vm : Value} {r : RS} (h : RLin w y vp vm r) : w.cell? ⟨y, 1, none⟩ = some vm := by simp [World.cell?, h.yc]

theorem toB_inj {a b : Key} : toB a = toB b ↔ a = b := ⟨fun h => by have := congrArg (fun x : ByteArray => x.data.toList) h; simpa [toB] using this, fun h => by rw [h]⟩
theorem toB_back (b : ByteArray) : toB b.data.toList = b := by cases b; simp [toB]
theorem mem_map_toB {ks : List Key} {s : ByteArray} : s ∈ ks.map toB ↔ s.data.toList ∈ ks := by
  rw [List.mem_map]
  constructor
  · rintro ⟨k, hk, rfl⟩
    have : (toB k).data.toList = k := by simp [toB]
    rw [this]; exact hk
  · intro h; exact ⟨_, h, toB_back s⟩
theorem toB_eqB (k : Key) (s : ByteArray) : ((toB k).toList == s.toList) = (k == s.data.toList) := by
  simp [toB, ByteArray.toList_eq]

def PairPost (w : World) (r : RS) (a b : ByteArray) (en : Ending) (w' : World) : Prop := en = .returned (.bool (r.pair a.data.toList b.data.toList)) ∧ w = w'

/-- In, where it is known what it says. -/
theorem in_yes (w : World) (v : Value) (ks : List Key) (s : ByteArray) (h : SL w v (ks.map toB)) (hk : s.data.toList ∈ ks) : Calls Try.prog 24 #[v, .string s] w fun e w' => e = .returned (.bool true) ∧ w = w' :=
  (in_any w v _ s h).mono fun e w' ⟨b, he, hb, hw⟩ => ⟨by rw [he, hb.2 (mem_map_toB.2 hk)], hw⟩
theorem in_no (w : World) (v : Value) (ks : List Key) (s : ByteArray) (h : SL w v (ks.map toB)) (hk : s.data.toList ∉ ks) : Calls Try.prog 24 #[v, .string s] w fun e w' => e = .returned (.bool false) ∧ w = w' :=
  (in_any w v _ s h).mono fun e w' ⟨b, he, hb, hw⟩ => ⟨by
    cases b with
    | false => exact he
    | true => exact absurd (mem_map_toB.1 (hb.1 rfl)) hk, hw⟩

set_option maxHeartbeats 2000000 in
theorem pair_any (w : World) (y : Nat) (vp vm : Value) (r : RS) (a b : ByteArray) (h : RLin w y vp vm r) :
    Calls Try.prog 32 #[.pointer (some ⟨y, 0, none⟩), .string a, .string b] w (PairPost w r a b) := by
  have c0 := h.c0
  have c1 := h.c1
  by_cases hk : a.data.toList ∈ r.ms
  · have hin := in_yes w vm r.ms a h.m hk
    obtain ⟨A, c, rfl, hl, hA⟩ := h.p.shape
    have HA := Lib.hid hA
    have HP : Hid (r.pair a.data.toList b.data.toList = decide ((a.data.toList, b.data.toList) ∈ r.ps)) := Lib.hid (by unfold RS.pair; rw [if_pos hk])
    clear hA hk h
    obtain ⟨ps, ms⟩ := r
    dsimp only at *
    go_enter Try.func32, Try.ntmps32
    go_wp2_with (go_at_call 24; refine hin.mono ?_; rintro en w' ⟨rfl, rfl⟩)
    go_loop [7] (fun i => ∃ k : Nat, k ≤ ps.length ∧ i = .int .i64 k ∧ Hid (∀ j (h : j < ps.length), j < k → ps[j] ≠ (a.data.toList, b.data.toList))) (fun i => ps.length - (intOf i).toNat)
    case atStart => exact ⟨0, Nat.zero_le _, rfl, fun j _ hj => absurd hj (by omega)⟩
    case round =>
      obtain ⟨k, hk, rfl, hq⟩ := hrel
      by_cases hlt : k < ps.length
      · have hki : (k : Int) < (ps.length : Int) := by omega
        obtain ⟨g, rfl, hPL⟩ := HA.out (by omega)
        have d0 := hPL.fst k hlt
        have d1 := hPL.snd k hlt
        clear hPL
        generalize hu : ps[k] = u at *
        obtain ⟨u1, u2⟩ := u
        dsimp only at d0 d1
        have HU := Lib.hid hu
        clear hu
        have b0 := toB_eqB u1 a
        have b1 := toB_eqB u2 b
        generalize (toB u1) = t1 at *
        generalize (toB u2) = t2 at *
        by_cases e1 : u1 = a.data.toList
        · rw [beq_iff_eq.2 e1] at b0
          by_cases e2 : u2 = b.data.toList
          · rw [beq_iff_eq.2 e2] at b1
            have HF : Hid (Ending.returned (.bool true) = Ending.returned (.bool (RS.pair ⟨ps, ms⟩ a.data.toList b.data.toList))) := Lib.hid (by
              have := HU.out
              rw [e1, e2] at this
              rw [HP.out, decide_eq_true (this ▸ List.getElem_mem hlt)])
            clear e1 e2
            go_wp2_with fail
            go_ret
            exact ⟨HF.out, rfl⟩
          · rw [beq_eq_false_iff_ne.2 e2] at b1
            have HQ : Hid (∀ j (h : j < ps.length), j < k + 1 → ps[j] ≠ (a.data.toList, b.data.toList)) := Lib.hid fun j hj hjk => by
              by_cases e : j = k
              · subst e; rw [HU.out]; exact fun e => e2 (congrArg Prod.snd e)
              · exact hq.out j hj (by omega)
            clear e1 e2
            go_wp2_with fail
            go_round
            case rel => exact ⟨k + 1, by omega, by go_num, HQ⟩
            case measure => simp [intOf]; omega
        · rw [beq_eq_false_iff_ne.2 e1] at b0
          have HQ : Hid (∀ j (h : j < ps.length), j < k + 1 → ps[j] ≠ (a.data.toList, b.data.toList)) := Lib.hid fun j hj hjk => by
            by_cases e : j = k
            · subst e; rw [HU.out]; exact fun e => e1 (congrArg Prod.fst e)
            · exact hq.out j hj (by omega)
          clear e1
          go_wp2_with fail
          go_round
          case rel => exact ⟨k + 1, by omega, by go_num, HQ⟩
          case measure => simp [intOf]; omega
      · have hki : decide ((k : Int) < (ps.length : Int)) = false := by simp; omega
        have hki2 : decide (k < ps.length) = false := by simp; omega
        have HF : Hid (Ending.returned (.bool false) = Ending.returned (.bool (RS.pair ⟨ps, ms⟩ a.data.toList b.data.toList))) := Lib.hid (by
          rw [HP.out, decide_eq_false (fun hm => by
            obtain ⟨j, hj, he⟩ := List.getElem_of_mem hm
            exact hq.out j hj (by omega) he)])
        go_wp2_with fail
        go_ret
        exact ⟨HF.out, rfl⟩
  · have hin := in_no w vm r.ms a h.m hk
    have HP : Hid (Ending.returned (.bool (a.toList == b.toList)) = Ending.returned (.bool (r.pair a.data.toList b.data.toList))) := Lib.hid (by unfold RS.pair; rw [if_neg hk, ByteArray.toList_eq, ByteArray.toList_eq])
    clear hk h
    go_enter Try.func32, Try.ntmps32
    go_wp2_with (go_at_call 24; refine hin.mono ?_; rintro en w' ⟨rfl, rfl⟩)
    go_ret
    exact ⟨HP.out, rfl⟩

/-- New. -/
def RNewPost (w : World) (en : Ending) (w' : World) : Prop := ∃ y, en = .returned (.pointer (some ⟨y, 0, none⟩)) ∧ w.heap.size ≤ y ∧ RLin w' y (.slice none 0 0) (.slice none 0 0) ⟨[], []⟩ ∧ Below w.heap.size w w'
theorem rnew_any (w : World) : Calls Try.prog 13 #[] w (RNewPost w) := by
  go_enter Try.func13, Try.ntmps13
  go_wp2
  go_ret
  refine ⟨_, rfl, Nat.le_refl _, ⟨?_, ⟨by simp, .inl ⟨rfl, rfl⟩⟩, ⟨by simp, .inl ⟨rfl, rfl⟩⟩, ?_, ?_⟩, (Below.refl _ _).alloc (Nat.le_refl _) _⟩
  · exact heap_alloc_new w _
  · intro g hg; simp [Value.ownBlock] at hg
  · intro g hg; simp [Value.ownBlock] at hg

end Go.Proofs.Ytkbjfmlfmmmknaa
