/- The walks of Same and of the law's own helpers. -/
import Derived.Test.YtdpbihbcggpobaaT11
namespace Go.Proofs.Ytdpbihbcggpobaa
open Go.RowKit Go.Maps

def mtEq (a b c d e f : Int) : Bool := a == d && b == e && c == f
theorem mtEq_dec (x y : Mt) : mtEq x.1 x.2.1 x.2.2 y.1 y.2.1 y.2.2 = decide (x = y) := by
  rw [Bool.eq_iff_iff, decide_eq_true_iff]
  unfold mtEq
  simp only [Bool.and_eq_true, beq_iff_eq]
  constructor
  · rintro ⟨⟨h1, h2⟩, h3⟩
    exact Prod.ext (by omega) (Prod.ext (by omega) h3)
  · intro h; rw [h]; exact ⟨⟨rfl, rfl⟩, rfl⟩
theorem guard36 : Try.prog.eqGuardType Try.prog.depth 36 = false := by kernel_rfl
theorem neq36 (a b c d e f : Int) (w : World) : (binOp .neq 36 (.agg #[.int .i64 a, .int .i64 b, .int .i64 c]) (.agg #[.int .i64 d, .int .i64 e, .int .i64 f])).run Try.prog w = .ok (.bool (!mtEq a b c d e f)) w := by
  have u3 := Try.underlying3
  have a3 := Try.isAgg3
  have z3 := Try.sizeOf3
  have hS : Try.prog.underlying 36 = some (.struct (Try.prog.fieldsOf 36)) := by kernel_rfl
  have hp : Try.prog.stoodInHeld 36 = false := by kernel_rfl
  unfold mtEq
  rw [run_neq_struct, show (10000 : Nat) = 9999 + 1 from rfl, run_equalIn_agg w 9999 36 _ _ hS hp]
  simp only [Program.fieldsOf, Try.underlying36]
  go_simp
  by_cases h1 : a = d <;> by_cases h2 : b = e <;> by_cases h3 : c = f <;> simp [h1, h2, h3]

/-- A list of meetings, wherever it lies. -/
def MsAt (w : World) (v : Value) (L : List Mt) : Prop :=
  ∃ p c, v = .slice p L.length c ∧ (L = [] ∨ ∃ g, p = some ⟨g, 0, none⟩ ∧ g < w.heap.size ∧ ∀ i (h : i < L.length), w.rangeAt g (i * 3) (mtCells L[i]))
theorem MsAt.below {w w' : World} {v : Value} {L : List Mt} (h : MsAt w v L) (hb : Below w.heap.size w w') : MsAt w' v L := by
  obtain ⟨p, c, rfl, h⟩ := h
  refine ⟨p, c, rfl, ?_⟩
  rcases h with h | ⟨g, rfl, hg, hr⟩
  · exact .inl h
  · exact .inr ⟨g, rfl, Nat.lt_of_lt_of_le hg hb.size, fun i hi => range_old (hr i hi) hg hb⟩
theorem MsAt.own {w : World} {B : Nat} {v : Value} {L : List Mt} (h : w.ownsRow B 36 3 v L.length (L.flatMap mtCells)) : MsAt w v L := by
  rcases own_form h with ⟨A, c, rfl, h0⟩ | ⟨g, cap, rfl, h0⟩
  · exact ⟨A, c, rfl, .inl (List.eq_nil_of_length_eq_zero h0)⟩
  · refine ⟨_, cap, rfl, .inr ⟨g, rfl, own_lt h, fun i hi j v hj => ?_⟩⟩
    rcases h.2 with ⟨h1, _⟩ | ⟨g', cap', cur, h1, hbase, hb, c1, c2, c3, c4⟩
    · cases h1
    · cases h1
      have hj3 : j < 3 := by
        have := (List.getElem?_eq_some_iff.1 hj).1; rw [mtCells_len] at this; exact this
      have h5 : (i + 1) * 3 ≤ L.length * 3 := Nat.mul_le_mul_right 3 hi
      have e1 : (cur.toList.take (L.length * 3))[i * 3 + j]? = some v := by
        rw [c4, flat_at mtCells 3 mtCells_len L i j hi hj3]; exact hj
      rw [List.getElem?_take_of_lt (by omega), Array.getElem?_toList] at e1
      have hlt : i * 3 + j < cur.size := (Array.getElem?_eq_some_iff.1 e1).1
      rw [cell_of_row w g (i * 3 + j) cur 36 (0, 0) hb, e1]
theorem MsAt.lit (w : World) (L : List Mt) (_ : 0 < L.length) : MsAt (w.alloc (.cells (L.flatMap mtCells).toArray 36)) (.slice (some ⟨w.heap.size, 0, none⟩) L.length L.length) L := by
  refine ⟨_, L.length, rfl, .inr ⟨w.heap.size, rfl, by simp, fun i hi j v hj => ?_⟩⟩
  have hj3 : j < 3 := by
    have := (List.getElem?_eq_some_iff.1 hj).1; rw [mtCells_len] at this; exact this
  refine (blk_new w (L.flatMap mtCells) 36).c (i * 3 + j) ?_
  rw [flat_at mtCells 3 mtCells_len L i j hi hj3]; exact hj

theorem take_next {K L : List Mt} {k : Nat} (h1 : k < K.length) (h2 : k < L.length) : K.take (k + 1) = K.take k ++ [K[k]] ∧ L.take (k + 1) = L.take k ++ [L[k]] := by
  constructor
  · rw [List.take_add_one, List.getElem?_eq_getElem h1]; rfl
  · rw [List.take_add_one, List.getElem?_eq_getElem h2]; rfl

theorem six {w : World} {g g2 o : Nat} {x y : Mt} (hx : w.rangeAt g o (mtCells x)) (hy : w.rangeAt g2 o (mtCells y)) :
    w.cell? ⟨g, o, none⟩ = some (.int .i64 x.1) ∧ w.cell? ⟨g, o + 1, none⟩ = some (.int .i64 x.2.1) ∧ w.cell? ⟨g, o + 2, none⟩ = some (.int .i64 x.2.2) ∧ w.cell? ⟨g2, o, none⟩ = some (.int .i64 y.1) ∧ w.cell? ⟨g2, o + 1, none⟩ = some (.int .i64 y.2.1) ∧ w.cell? ⟨g2, o + 2, none⟩ = some (.int .i64 y.2.2) :=
  ⟨hx 0 _ rfl, hx 1 _ rfl, hx 2 _ rfl, hy 0 _ rfl, hy 1 _ rfl, hy 2 _ rfl⟩

theorem side_any (a b c d : Int) (w : World) : Calls Try.prog 17 #[.int .i64 a, .int .i64 b, .int .i64 c, .int .i64 d] w (fun e w' => e = .returned (sg ((a, b), (c, d))) ∧ Below w.heap.size w w') := by
  unfold sg
  go_enter Try.func17, Try.ntmps17
  go_wp2_with fail
  exact bodyPost_ret (v := .agg #[.int .i64 a, .int .i64 b, .int .i64 c, .int .i64 d]) (by simp [results, Try.results17, go_sem]) rfl ⟨rfl, (Below.refl _ _).alloc (Nat.le_refl _) _⟩

set_option maxHeartbeats 4000000 in
theorem same_any (K L : List Mt) (u v : Value) (w : World) (hu : MsAt w u K) (hv : MsAt w v L) (hl : K.length ≤ 1000000000) : Calls Try.prog 12 #[u, v] w (BoolB (decide (K = L)) w) := by
  obtain ⟨p, c, rfl, hp⟩ := hu
  obtain ⟨q, d, rfl, hq⟩ := hv
  by_cases hlen : K.length = L.length
  · have hne := neq36
    have hg := guard36
    have HP := Lib.hid hp
    have HQ := Lib.hid hq
    have HL := Lib.hid hlen
    have hc1 : decide ((K.length : Int) = (L.length : Int)) = true := by simp; omega
    have hc2 : ((K.length : Int) == (L.length : Int)) = true := by simp; omega
    clear hp hq
    rw [← hlen]
    clear hlen
    go_enter Try.func12, Try.ntmps12
    go_wp2_with fail
    go_loopg [5] K.length (fun c' i wr => ∃ k : Nat, k + c' = K.length ∧ i = .int .i64 k ∧ Below w.heap.size w wr ∧ K.take k = L.take k)
    case atStart => exact ⟨0, by omega, rfl, Below.refl _ _, by simp⟩
    case round =>
      obtain ⟨k, hk, rfl, hb, he⟩ := hrel
      by_cases hlt : k < K.length
      · have hki : decide ((k : Int) < (K.length : Int)) = true := by simp; omega
        have hkl : k < L.length := by rw [← HL.out]; exact hlt
        have HK := Lib.hid hk
        have HB := Lib.hid hb
        have HE := Lib.hid (And.intro he (take_next hlt hkl))
        rcases HP.out with hp | ⟨g, rfl, hgl, hra⟩
        · rw [hp] at hlt; simp at hlt
        rcases HQ.out with hq | ⟨g2, rfl, hgl2, hra2⟩
        · rw [hq] at hkl; simp at hkl
        have hx := range_old (hra k hlt) hgl hb
        have hy := range_old (hra2 k hkl) hgl2 hb
        clear hra hra2 hk hb he
        generalize K[k] = x at *
        generalize L[k] = y at *
        have hS := six hx hy
        have HS := Lib.hid hS
        clear hx hy hS
        have hdec := mtEq_dec x y
        unfold mtCells at HS
        have hn1 := hl
        by_cases hxy : x = y
        · rw [decide_eq_true hxy] at hdec
          have HE2 : Hid (K.take (k + 1) = L.take (k + 1)) := Lib.hid (by rw [HE.out.2.1, HE.out.2.2, HE.out.1, hxy])
          clear hxy
          go_upto_region 6 with fail
          go_region_held3 (fun w' => w'.cell? ⟨g, k * 3, none⟩ = some (.int .i64 x.1) ∧ w'.cell? ⟨g, k * 3 + 1, none⟩ = some (.int .i64 x.2.1) ∧ w'.cell? ⟨g, k * 3 + 2, none⟩ = some (.int .i64 x.2.2) ∧ w'.cell? ⟨g2, k * 3, none⟩ = some (.int .i64 y.1) ∧ w'.cell? ⟨g2, k * 3 + 1, none⟩ = some (.int .i64 y.2.1) ∧ w'.cell? ⟨g2, k * 3 + 2, none⟩ = some (.int .i64 y.2.2)) (first | exact HS.out) (fail)
          go_wp2_with fail
          have hk1 := HK.out
          go_roundg (gk - 1)
          case measure => omega
          case rel => exact ⟨k + 1, by omega, by congr 1, HB.out.drew, HE2.out⟩
        · rw [decide_eq_false hxy] at hdec
          have HF : Hid (decide (K = L) = false) := Lib.hid (by
            simp only [decide_eq_false_iff_not]
            intro e
            refine hxy ?_
            have h1 := HE.out.2.1
            rw [e, HE.out.2.2] at h1
            exact (List.singleton_inj.1 (List.append_cancel_left h1)).symm)
          clear hxy
          go_upto_region 6 with fail
          go_region_held3 (fun w' => w'.cell? ⟨g, k * 3, none⟩ = some (.int .i64 x.1) ∧ w'.cell? ⟨g, k * 3 + 1, none⟩ = some (.int .i64 x.2.1) ∧ w'.cell? ⟨g, k * 3 + 2, none⟩ = some (.int .i64 x.2.2) ∧ w'.cell? ⟨g2, k * 3, none⟩ = some (.int .i64 y.1) ∧ w'.cell? ⟨g2, k * 3 + 1, none⟩ = some (.int .i64 y.2.1) ∧ w'.cell? ⟨g2, k * 3 + 2, none⟩ = some (.int .i64 y.2.2)) (first | exact HS.out) (fail)
          go_wp2_with fail
          have hfin : BoolB (decide (K = L)) w (.returned (.bool false)) (wr.drewN 1) := ⟨by rw [HF.out], HB.out.trans ⟨rfl, rfl, rfl, Nat.le_refl _, fun _ _ => rfl⟩⟩
          go_ret
          exact hfin
      · have hki : decide ((k : Int) < (K.length : Int)) = false := by simp; omega
        have HF : Hid (decide (K = L) = true) := Lib.hid (by
          simp only [decide_eq_true_eq]
          have h1 := he
          rw [List.take_of_length_le (by omega), List.take_of_length_le (by have := HL.out; omega)] at h1
          exact h1)
        have hfin : BoolB (decide (K = L)) w (.returned (.bool true)) wr := ⟨by rw [HF.out], hb⟩
        have HFI := Lib.hid hfin
        clear hfin he hb hk
        go_wp2_with fail
        go_ret
        exact HFI.out
  · have hc1 : decide ((K.length : Int) = (L.length : Int)) = false := by simp; omega
    have hc2 : ((K.length : Int) == (L.length : Int)) = false := by simp; omega
    have hr : decide (K = L) = false := by simp; intro e; exact hlen (by rw [e])
    rw [hr]
    go_enter Try.func12, Try.ntmps12
    go_wp2_with fail
    go_ret
    exact ⟨rfl, Below.refl _ _⟩

theorem sgCells_len (s : Sg) : (sgCells s).length = 4 := rfl
theorem segs_lit (w : World) (L : List Sg) (_ : 0 < L.length) : SegsAt (w.alloc (.cells (L.flatMap sgCells).toArray 34)) (.slice (some ⟨w.heap.size, 0, none⟩) L.length L.length) L := by
  refine ⟨_, L.length, rfl, .inr ⟨w.heap.size, 0, rfl, by simp, fun i hi j v hj => ?_⟩⟩
  have hj3 : j < 4 := by
    have := (List.getElem?_eq_some_iff.1 hj).1; rw [sgCells_len] at this; exact this
  rw [Nat.zero_add]
  refine (blk_new w (L.flatMap sgCells) 34).c (i * 4 + j) ?_
  rw [flat_at sgCells 4 sgCells_len L i j hi hj3]; exact hj
theorem SegsAt.below {w w' : World} {v : Value} {L : List Sg} (h : SegsAt w v L) (hb : Below w.heap.size w w') : SegsAt w' v L := by
  obtain ⟨p, c, rfl, h⟩ := h
  refine ⟨p, c, rfl, ?_⟩
  rcases h with h | ⟨g, o, rfl, hg, hr⟩
  · exact .inl h
  · exact .inr ⟨g, o, rfl, Nat.lt_of_lt_of_le hg hb.size, fun i hi => range_old (hr i hi) hg hb⟩

/-- What All leaves, as its callers use it. -/
def AllM (l : List Sg) (w : World) (e : Ending) (w' : World) : Prop :=
  ∃ v, e = .returned (.tuple #[v, .int .i64 0]) ∧ MsAt w' v (allP (kindOf l) l.length l.length) ∧ Below w.heap.size w w'
theorem all_m (l : List Sg) (v : Value) (w : World) (hv : SegsAt w v l) (hn : l.length ≤ 20000) : Calls Try.prog 10 #[v] w (AllM l w) := by
  refine (all_any l v w hv hn).mono ?_
  rintro e w' ⟨v, rfl, h1, h2⟩
  exact ⟨v, rfl, MsAt.own h1, h2⟩

def ex1 : List Sg := [((0, 0), (4, 4)), ((0, 4), (4, 0)), ((9, 9), (9, 9))]
def ex2 : List Sg := [((0, 0), (4, 0)), ((4, 0), (4, 4)), ((2, 0), (2, 5)), ((4, 0), (0, 0))]
def want1 : List Mt := [(0, 1, 3)]
def want2 : List Mt := [(0, 1, 1), (0, 2, 2), (0, 3, 4), (1, 3, 1), (2, 3, 2)]
theorem ex1_all : allP (kindOf ex1) ex1.length ex1.length = want1 := by decide
theorem ex2_all : allP (kindOf ex2) ex2.length ex2.length = want2 := by decide
theorem all_ex1 (w : World) : Calls Try.prog 10 #[.slice (some ⟨w.heap.size, 0, none⟩) 3 3] (w.alloc (.cells (ex1.flatMap sgCells).toArray 34)) (fun e w' => ∃ v, e = .returned (.tuple #[v, .int .i64 0]) ∧ MsAt w' v want1 ∧ Below w.heap.size w w') := by
  refine (all_m ex1 _ _ (segs_lit w ex1 (by decide)) (by decide)).mono ?_
  rintro e w' ⟨v, rfl, h1, h2⟩
  rw [ex1_all] at h1
  exact ⟨v, rfl, h1, (below_new w _).trans (h2.mono (by simp))⟩
theorem all_ex2 (w : World) : Calls Try.prog 10 #[.slice (some ⟨w.heap.size, 0, none⟩) 4 4] (w.alloc (.cells (ex2.flatMap sgCells).toArray 34)) (fun e w' => ∃ v, e = .returned (.tuple #[v, .int .i64 0]) ∧ MsAt w' v want2 ∧ Below w.heap.size w w') := by
  refine (all_m ex2 _ _ (segs_lit w ex2 (by decide)) (by decide)).mono ?_
  rintro e w' ⟨v, rfl, h1, h2⟩
  rw [ex2_all] at h1
  exact ⟨v, rfl, h1, (below_new w _).trans (h2.mono (by simp))⟩
theorem same_yes (L : List Mt) (u v : Value) (w : World) (hu : MsAt w u L) (hv : MsAt w v L) (hl : L.length ≤ 1000000000) : Calls Try.prog 12 #[u, v] w (fun e w' => e = .returned (.bool true) ∧ Below w.heap.size w w') := by
  have h := same_any L L u v w hu hv hl
  rw [decide_eq_true rfl] at h
  exact h

end Go.Proofs.Ytdpbihbcggpobaa
