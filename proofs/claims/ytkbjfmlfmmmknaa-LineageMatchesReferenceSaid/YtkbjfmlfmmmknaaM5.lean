/- The walks of the reference's Now, Then and Gone. -/
import Derived.Test.YtkbjfmlfmmmknaaM4
namespace Go.Proofs.Ytkbjfmlfmmmknaa
open Go.RowKit Go.Maps Go.WideMaps Go.ChangeMaps Go.Sort

/-- What Now and Then of the reference hand back. -/
def RListPost (w : World) (L : List Key) (en : Ending) (w' : World) : Prop :=
  ∃ v', en = .returned v' ∧ SL w' v' (L.map toB) ∧ Below w.heap.size w w' ∧ ∀ g, v'.ownBlock = some g → w.heap.size ≤ g

theorem slc_form {w : World} {v : Value} {ks : List Key} (h : SLC w v ks) : ∃ A n c, v = .slice A n c := by
  rcases h.1.2 with ⟨rfl, _⟩ | ⟨g, c, rfl, _⟩ <;> exact ⟨_, _, _, rfl⟩
def PutsR (w : World) (L : List Key) (v : Value) (wr : World) : Prop :=
  SLC wr v (puts L) ∧ Below w.heap.size w wr ∧ ∀ g, v.ownBlock = some g → w.heap.size ≤ g
theorem PutsR.start (w : World) : PutsR w [] (.slice none 0 0) w := ⟨⟨⟨by simp [puts], .inl ⟨rfl, rfl⟩⟩, fun A n c e => by cases e; omega⟩, Below.refl _ _, fun g hg => by simp [Value.ownBlock] at hg⟩
theorem PutsR.next {w wr w' : World} {L : List Key} {v v' : Value} {s : Key} (h : PutsR w L v wr) (h1 : SLC w' v' (putP (puts L) s)) (h2 : Below wr.heap.size wr w') (h3 : ∀ g, v'.ownBlock = some g → wr.heap.size ≤ g) : PutsR w (L ++ [s]) v' w' := by
  refine ⟨?_, h.2.1.trans (h2.mono h.2.1.size), fun g hg => Nat.le_trans h.2.1.size (h3 g hg)⟩
  unfold puts
  rw [List.foldl_append]
  exact h1

theorem secs_next {ps : List (Key × Key)} {key : Key} {k : Nat} (hk : k < ps.length) : RS.secs (ps.take (k + 1)) key = RS.secs (ps.take k) key ++ (if ps[k].1 = key then [ps[k].2] else []) := by
  unfold RS.secs
  rw [List.take_add_one, List.getElem?_eq_getElem hk, List.filter_append, List.map_append]
  by_cases e : ps[k].1 = key <;> simp [e]
theorem firsts_next {ps : List (Key × Key)} {key : Key} {k : Nat} (hk : k < ps.length) : RS.firsts (ps.take (k + 1)) key = RS.firsts (ps.take k) key ++ (if ps[k].2 = key then [ps[k].1] else []) := by
  unfold RS.firsts
  rw [List.take_add_one, List.getElem?_eq_getElem hk, List.filter_append, List.map_append]
  by_cases e : ps[k].2 = key <;> simp [e]
theorem secs_len (ps : List (Key × Key)) (key : Key) (k : Nat) : (puts (RS.secs (ps.take k) key)).length ≤ ps.length := by
  rw [puts_length]
  unfold RS.secs
  rw [List.length_map]
  exact Nat.le_trans (List.length_filter_le _ _) (by rw [List.length_take]; omega)
theorem firsts_len (ps : List (Key × Key)) (key : Key) (k : Nat) : (puts (RS.firsts (ps.take k) key)).length ≤ ps.length := by
  rw [puts_length]
  unfold RS.firsts
  rw [List.length_map]
  exact Nat.le_trans (List.length_filter_le _ _) (by rw [List.length_take]; omega)

set_option maxHeartbeats 4000000 in
theorem rnow_any (w : World) (y : Nat) (vp vm : Value) (r : RS) (a : ByteArray) (h : RLin w y vp vm r) (hl : r.ps.length ≤ 800000) :
    Calls Try.prog 18 #[.pointer (some ⟨y, 0, none⟩), .string a] w (RListPost w (r.now a.data.toList)) := by
  have hy : YAt w y vp vm := h.yc
  have d0' := hy.c0
  have d1' := hy.c1
  by_cases hk : a.data.toList ∈ r.ms
  · have hin := in_yes w vm r.ms a h.m hk
    have HF : Hid (r.now a.data.toList = puts (RS.secs r.ps a.data.toList)) := Lib.hid (by unfold RS.now; rw [if_pos hk])
    obtain ⟨A, c, rfl, _, hA⟩ := h.p.shape
    have HA := Lib.hid hA
    have hylt := hy.lt
    have HY := Lib.hid hy
    clear hA hk h hy
    obtain ⟨ps, ms⟩ := r
    dsimp only at *
    have HSTART : Hid (PutsR w (RS.secs (ps.take 0) a.data.toList) (.slice none 0 0) w) := Lib.hid (PutsR.start w)
    go_enter Try.func18, Try.ntmps18
    go_wp2_with (go_at_call 24; refine hin.mono ?_; rintro en w' ⟨rfl, rfl⟩)
    go_loopg [5, 6] ps.length (fun c v i wr => ∃ k : Nat, k + c = ps.length ∧ i = .int .i64 k ∧ PutsR w (RS.secs (ps.take k) a.data.toList) v wr)
    case atStart => exact ⟨0, by omega, rfl, HSTART.out⟩
    case round =>
      clear HSTART d0' d1'
      obtain ⟨k, hk, rfl, hR⟩ := hrel
      have hkl : k ≤ ps.length := by omega
      have HK := Lib.hid hk
      have HR := Lib.hid hR
      have hyr : YAt wr y (.slice A ps.length c) vm := HY.out.keep (hR.2.1.block y hylt)
      have d0 := hyr.c0
      clear hk hR hyr
      by_cases hlt : k < ps.length
      · have hki : (k : Int) < (ps.length : Int) := by omega
        obtain ⟨g, rfl, hPL⟩ := HA.out (by omega)
        have hPLr : PLat wr g ps := hPL.turn (F := fun _ => False) (Turn.of_below HR.out.2.1) (fun h => h)
        have d1 := hPLr.fst k hlt
        have d2 := hPLr.snd k hlt
        have HNX := Lib.hid (secs_next (key := a.data.toList) hlt)
        have HLN := Lib.hid (secs_len ps a.data.toList k)
        have b1 := toB_eqB ps[k].1 a
        have bd : ∀ z, (toB z).data.toList = z := toB_data
        have BD := Lib.hid (bd ps[k].2)
        clear bd hPL hPLr
        generalize ps[k] = u at *
        obtain ⟨u1, u2⟩ := u
        dsimp only at *
        generalize (toB u1) = t1 at *
        generalize (toB u2) = t2 at *
        cases e2 : (u1 == a.data.toList) with
        | true =>
          rw [e2] at b1
          have HNX2 : Hid (RS.secs (ps.take (k + 1)) a.data.toList = RS.secs (ps.take k) a.data.toList ++ [u2]) := Lib.hid (by rw [HNX.out, if_pos (beq_iff_eq.1 e2)])
          clear e2
          go_wp2_with (go_at_call 38; refine (put_any wr _ _ t2 HR.out.1 (by have := HLN.out; omega)).mono ?_; rintro en w4 ⟨v4, rfl, hs4, hb4, hf4⟩; have HN := Lib.hid (HR.out.next hs4 hb4 hf4); clear hs4 hb4 hf4)
          have hk1 := HK.out
          have HN2 := HN.out
          rw [BD.out, ← HNX2.out] at HN2
          go_roundg (gk - 1)
          case measure => omega
          case rel => exact ⟨k + 1, by omega, by go_num, HN2⟩
        | false =>
          rw [e2] at b1
          have HNX2 : Hid (RS.secs (ps.take (k + 1)) a.data.toList = RS.secs (ps.take k) a.data.toList) := Lib.hid (by rw [HNX.out, if_neg (beq_eq_false_iff_ne.1 e2)]; simp)
          clear e2
          go_wp2_with fail
          have hk1 := HK.out
          have HN2 := HR.out
          rw [← HNX2.out] at HN2
          go_roundg (gk - 1)
          case measure => omega
          case rel => exact ⟨k + 1, by omega, by go_num, HN2⟩
      · have hki : decide ((k : Int) < (ps.length : Int)) = false := by simp; omega
        have hki2 : decide (k < ps.length) = false := by simp; omega
        have hke : k = ps.length := by omega
        obtain ⟨A5, n5, c5, rfl⟩ := slc_form HR.out.1
        have hfin : RListPost w (RS.now ⟨ps, ms⟩ a.data.toList) (.returned (.slice A5 n5 c5)) wr := by
          have := HR.out
          rw [hke, List.take_length] at this
          rw [HF.out]
          exact ⟨_, rfl, this.1.1, this.2.1, this.2.2⟩
        have HFIN := Lib.hid hfin
        clear hfin hke
        go_wp2_with fail
        go_ret
        exact HFIN.out
  · have hin := in_no w vm r.ms a h.m hk
    have HF : Hid (r.now a.data.toList = [a.data.toList]) := Lib.hid (by unfold RS.now; rw [if_neg hk])
    clear hk h hy d0'
    go_enter Try.func18, Try.ntmps18
    go_wp2_with (go_at_call 24; refine hin.mono ?_; rintro en w' ⟨rfl, rfl⟩)
    have hfin : RListPost w (r.now a.data.toList) (.returned (.slice (some ⟨w.heap.size, 0, none⟩) 1 1)) (w.alloc (.cells #[.string a] 9)) := by
      rw [HF.out]
      exact ⟨_, rfl, sl_one w a, boxed_below _ _, fun g hg => by simp [Value.ownBlock] at hg; omega⟩
    go_ret
    exact hfin

set_option maxHeartbeats 4000000 in
theorem rthen_any (w : World) (y : Nat) (vp vm : Value) (r : RS) (a : ByteArray) (h : RLin w y vp vm r) (hl : r.ps.length ≤ 800000) :
    Calls Try.prog 20 #[.pointer (some ⟨y, 0, none⟩), .string a] w (RListPost w (r.then_ a.data.toList)) := by
  have hy : YAt w y vp vm := h.yc
  have d0' := hy.c0
  have d1' := hy.c1
  by_cases hk : a.data.toList ∈ r.ms
  · have hin := in_yes w vm r.ms a h.m hk
    have HF : Hid (r.then_ a.data.toList = puts (RS.firsts r.ps a.data.toList)) := Lib.hid (by unfold RS.then_; rw [if_pos hk])
    obtain ⟨A, c, rfl, _, hA⟩ := h.p.shape
    have HA := Lib.hid hA
    have hylt := hy.lt
    have HY := Lib.hid hy
    clear hA hk h hy
    obtain ⟨ps, ms⟩ := r
    dsimp only at *
    have HSTART : Hid (PutsR w (RS.firsts (ps.take 0) a.data.toList) (.slice none 0 0) w) := Lib.hid (PutsR.start w)
    go_enter Try.func20, Try.ntmps20
    go_wp2_with (go_at_call 24; refine hin.mono ?_; rintro en w' ⟨rfl, rfl⟩)
    go_loopg [5, 6] ps.length (fun c v i wr => ∃ k : Nat, k + c = ps.length ∧ i = .int .i64 k ∧ PutsR w (RS.firsts (ps.take k) a.data.toList) v wr)
    case atStart => exact ⟨0, by omega, rfl, HSTART.out⟩
    case round =>
      clear HSTART d0' d1'
      obtain ⟨k, hk, rfl, hR⟩ := hrel
      have hkl : k ≤ ps.length := by omega
      have HK := Lib.hid hk
      have HR := Lib.hid hR
      have hyr : YAt wr y (.slice A ps.length c) vm := HY.out.keep (hR.2.1.block y hylt)
      have d0 := hyr.c0
      clear hk hR hyr
      by_cases hlt : k < ps.length
      · have hki : (k : Int) < (ps.length : Int) := by omega
        obtain ⟨g, rfl, hPL⟩ := HA.out (by omega)
        have hPLr : PLat wr g ps := hPL.turn (F := fun _ => False) (Turn.of_below HR.out.2.1) (fun h => h)
        have d1 := hPLr.fst k hlt
        have d2 := hPLr.snd k hlt
        have HNX := Lib.hid (firsts_next (key := a.data.toList) hlt)
        have HLN := Lib.hid (firsts_len ps a.data.toList k)
        have b1 := toB_eqB ps[k].2 a
        have bd : ∀ z, (toB z).data.toList = z := toB_data
        have BD := Lib.hid (bd ps[k].1)
        clear bd hPL hPLr
        generalize ps[k] = u at *
        obtain ⟨u1, u2⟩ := u
        dsimp only at *
        generalize (toB u1) = t1 at *
        generalize (toB u2) = t2 at *
        cases e2 : (u2 == a.data.toList) with
        | true =>
          rw [e2] at b1
          have HNX2 : Hid (RS.firsts (ps.take (k + 1)) a.data.toList = RS.firsts (ps.take k) a.data.toList ++ [u1]) := Lib.hid (by rw [HNX.out, if_pos (beq_iff_eq.1 e2)])
          clear e2
          go_wp2_with (go_at_call 38; refine (put_any wr _ _ t1 HR.out.1 (by have := HLN.out; omega)).mono ?_; rintro en w4 ⟨v4, rfl, hs4, hb4, hf4⟩; have HN := Lib.hid (HR.out.next hs4 hb4 hf4); clear hs4 hb4 hf4)
          have hk1 := HK.out
          have HN2 := HN.out
          rw [BD.out, ← HNX2.out] at HN2
          go_roundg (gk - 1)
          case measure => omega
          case rel => exact ⟨k + 1, by omega, by go_num, HN2⟩
        | false =>
          rw [e2] at b1
          have HNX2 : Hid (RS.firsts (ps.take (k + 1)) a.data.toList = RS.firsts (ps.take k) a.data.toList) := Lib.hid (by rw [HNX.out, if_neg (beq_eq_false_iff_ne.1 e2)]; simp)
          clear e2
          go_wp2_with fail
          have hk1 := HK.out
          have HN2 := HR.out
          rw [← HNX2.out] at HN2
          go_roundg (gk - 1)
          case measure => omega
          case rel => exact ⟨k + 1, by omega, by go_num, HN2⟩
      · have hki : decide ((k : Int) < (ps.length : Int)) = false := by simp; omega
        have hki2 : decide (k < ps.length) = false := by simp; omega
        have hke : k = ps.length := by omega
        obtain ⟨A5, n5, c5, rfl⟩ := slc_form HR.out.1
        have hfin : RListPost w (RS.then_ ⟨ps, ms⟩ a.data.toList) (.returned (.slice A5 n5 c5)) wr := by
          have := HR.out
          rw [hke, List.take_length] at this
          rw [HF.out]
          exact ⟨_, rfl, this.1.1, this.2.1, this.2.2⟩
        have HFIN := Lib.hid hfin
        clear hfin hke
        go_wp2_with fail
        go_ret
        exact HFIN.out
  · have hin := in_no w vm r.ms a h.m hk
    have HF : Hid (r.then_ a.data.toList = [a.data.toList]) := Lib.hid (by unfold RS.then_; rw [if_neg hk])
    clear hk h hy d0'
    go_enter Try.func20, Try.ntmps20
    go_wp2_with (go_at_call 24; refine hin.mono ?_; rintro en w' ⟨rfl, rfl⟩)
    have hfin : RListPost w (r.then_ a.data.toList) (.returned (.slice (some ⟨w.heap.size, 0, none⟩) 1 1)) (w.alloc (.cells #[.string a] 9)) := by
      rw [HF.out]
      exact ⟨_, rfl, sl_one w a, boxed_below _ _, fun g hg => by simp [Value.ownBlock] at hg; omega⟩
    go_ret
    exact hfin

/-- Gone. -/
def RGonePost (w : World) (L : List Key) (en : Ending) (w' : World) : Prop := en = .returned (.bool L.isEmpty) ∧ Below w.heap.size w w'
set_option maxHeartbeats 2000000 in
theorem rgone_any (w : World) (y : Nat) (vp vm : Value) (r : RS) (a : ByteArray) (h : RLin w y vp vm r) (hl : r.ps.length ≤ 800000) :
    Calls Try.prog 22 #[.pointer (some ⟨y, 0, none⟩), .string a] w (RGonePost w (r.now a.data.toList)) := by
  have hnow := rnow_any w y vp vm r a h hl
  generalize r.now a.data.toList = L at *
  clear h
  go_enter Try.func22, Try.ntmps22
  go_wp2_with (go_at_call 18; refine hnow.mono ?_; rintro en w' ⟨v', rfl, hs, hb, hf⟩; obtain ⟨A, c, rfl, _, _⟩ := hs.shape; have HB := Lib.hid hb; clear hs hb hf)
  go_ret
  refine ⟨?_, HB.out⟩
  cases L with
  | nil => simp
  | cons z L => simp; omega

end Go.Proofs.Ytkbjfmlfmmmknaa
