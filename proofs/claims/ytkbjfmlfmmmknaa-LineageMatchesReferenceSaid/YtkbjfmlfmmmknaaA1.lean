/- The walk of apart: whether two edits have no Id in common. -/
import Derived.Test.YtkbjfmlfmmmknaaL6
import Derived.Deep.DeepCutAuto
import Derived.Deep.RegionHeld3
import Derived.RegionTactic
namespace Go.Proofs.Ytkbjfmlfmmmknaa
open Go.RowKit Go.Maps Go.WideMaps Go.ChangeMaps Go.Sort

def Ids3 (w : World) (g : Nat) (a b c : ByteArray) : Prop := w.cell? ⟨g, 0, none⟩ = some (.string a) ∧ w.cell? ⟨g, 1, none⟩ = some (.string b) ∧ w.cell? ⟨g, 2, none⟩ = some (.string c)

def ApartPost (w : World) (a b : EdC) (en : Ending) (w' : World) : Prop := ∃ r, en = .returned (.bool r) ∧ Below w.heap.size w w' ∧ (r = true → ∀ x ∈ [a.id, a.other, a.obj], ∀ y ∈ [b.id, b.other, b.obj], x = y → x = ⟨#[]⟩)

theorem keep6 {N B C : Nat} {a1 a2 a3 b1 b2 b3 : Value} (hB : B < N) (hC : C < N) (o : Obj) {w : World}
    (h : w.cell? ⟨B, 1, none⟩ = some a1 ∧ w.cell? ⟨B, 2, none⟩ = some a2 ∧ w.cell? ⟨B, 9, none⟩ = some a3 ∧ w.cell? ⟨C, 1, none⟩ = some b1 ∧ w.cell? ⟨C, 2, none⟩ = some b2 ∧ w.cell? ⟨C, 9, none⟩ = some b3 ∧ N ≤ w.heap.size) :
    (w.alloc o).cell? ⟨B, 1, none⟩ = some a1 ∧ (w.alloc o).cell? ⟨B, 2, none⟩ = some a2 ∧ (w.alloc o).cell? ⟨B, 9, none⟩ = some a3 ∧ (w.alloc o).cell? ⟨C, 1, none⟩ = some b1 ∧ (w.alloc o).cell? ⟨C, 2, none⟩ = some b2 ∧ (w.alloc o).cell? ⟨C, 9, none⟩ = some b3 ∧ N ≤ (w.alloc o).heap.size := by
  obtain ⟨h1, h2, h3, h4, h5, h6, h7⟩ := h
  have k : ∀ p : Addr, p.block < w.heap.size → (w.alloc o).cell? p = w.cell? p := fun p hp => World.cell?_alloc_lt w o p hp
  have hs := boxed_size w o
  refine ⟨(k _ (Nat.lt_of_lt_of_le hB h7)).trans h1, (k _ (Nat.lt_of_lt_of_le hB h7)).trans h2, (k _ (Nat.lt_of_lt_of_le hB h7)).trans h3, (k _ (Nat.lt_of_lt_of_le hC h7)).trans h4, (k _ (Nat.lt_of_lt_of_le hC h7)).trans h5, (k _ (Nat.lt_of_lt_of_le hC h7)).trans h6, by omega⟩

theorem ids3_lit (w : World) (a b c : ByteArray) : Ids3 (w.alloc (.cells #[.string a, .string b, .string c] 9)) w.heap.size a b c := by
  refine ⟨?_, ?_, ?_⟩ <;> (rw [World.cell?, alloc_at]; rfl)
theorem ids3_next (w : World) (o : Obj) (a b c : ByteArray) : Ids3 ((w.alloc o).alloc (.cells #[.string a, .string b, .string c] 9)) (w.heap.size + 1) a b c := by
  rw [← boxed_size w o]; exact ids3_lit _ _ _ _
theorem ids3_keep {w : World} {g : Nat} {a b c : ByteArray} (h : Ids3 w g a b c) (hg : g < w.heap.size) (o : Obj) : Ids3 (w.alloc o) g a b c :=
  ⟨(World.cell?_alloc_lt w o ⟨g, 0, none⟩ hg).trans h.1, (World.cell?_alloc_lt w o ⟨g, 1, none⟩ hg).trans h.2.1, (World.cell?_alloc_lt w o ⟨g, 2, none⟩ hg).trans h.2.2⟩
theorem below_two {w wb : World} (h : Below w.heap.size w wb) (o p : Obj) : Below w.heap.size w ((wb.alloc o).alloc p).drew :=
  ((h.alloc h.size o).alloc (Nat.le_trans h.size (by simp)) p).trans ⟨rfl, rfl, rfl, Nat.le_refl _, fun _ _ => rfl⟩
theorem below_dr {w wb : World} (h : Below w.heap.size w wb) (n : Nat) : Below w.heap.size w (wb.drewN n) := h.trans ⟨rfl, rfl, rfl, Nat.le_refl _, fun _ _ => rfl⟩

def at3 (a b c : ByteArray) (i : Nat) : ByteArray := if i = 0 then a else if i = 1 then b else c
theorem Ids3.at_ {w : World} {g : Nat} {a b c : ByteArray} (h : Ids3 w g a b c) {i : Nat} (hi : i < 3) : w.cell? ⟨g, i, none⟩ = some (.string (at3 a b c i)) := by
  obtain ⟨h1, h2, h3⟩ := h
  have : i = 0 ∨ i = 1 ∨ i = 2 := by omega
  rcases this with rfl | rfl | rfl
  · exact h1
  · exact h2
  · exact h3
theorem mem_at3 {a b c x : ByteArray} (h : x ∈ [a, b, c]) : ∃ i, i < 3 ∧ at3 a b c i = x := by
  rcases List.mem_cons.1 h with rfl | h
  · exact ⟨0, by decide, rfl⟩
  · rcases List.mem_cons.1 h with rfl | h
    · exact ⟨1, by decide, rfl⟩
    · exact ⟨2, by decide, (List.mem_singleton.1 h).symm⟩

theorem empty_yes {x : ByteArray} (h : x = ⟨#[]⟩) : x.toList.isEmpty = true := by rw [h, ByteArray.toList_eq]; rfl
theorem empty_no {x : ByteArray} (h : x ≠ ⟨#[]⟩) : x.toList.isEmpty = false := by
  rw [ByteArray.toList_eq]
  cases hx : x.data.toList with
  | nil => exact absurd (str_eq (by rw [hx])) h
  | cons a l => rfl

set_option maxHeartbeats 4000000 in
set_option maxRecDepth 100000 in
theorem apart_any (w : World) (a b : EdC) : Calls Try.prog 28 #[a.val, b.val] w (ApartPost w a b) := by
  obtain ⟨op, aid, aother, aobj, c3, c4, c5, c6, c7, c8, c10, c11, c12, c13, c14⟩ := a
  obtain ⟨op', bid, bother, bobj, d3, d4, d5, d6, d7, d8, d10, d11, d12, d13, d14⟩ := b
  unfold EdC.val EdC.cells
  dsimp only
  go_enter Try.func28, Try.ntmps28
  go_upto_region 1 with fail
  have hra := boxed_range w [.int .i64 op, .string aid, .string aother, c3, c4, c5, c6, c7, c8, .string aobj, c10, c11, c12, c13, c14] 38
  have hb0 := boxed_below w (.cells (#[.int .i64 op, .string aid, .string aother, c3, c4, c5, c6, c7, c8, .string aobj, c10, c11, c12, c13, c14]) 38)
  have hz0 := boxed_size w (.cells (#[.int .i64 op, .string aid, .string aother, c3, c4, c5, c6, c7, c8, .string aobj, c10, c11, c12, c13, c14]) 38)
  generalize World.alloc w _ = w0 at *
  have hra2 := boxed_range w0 [.int .i64 op', .string bid, .string bother, d3, d4, d5, d6, d7, d8, .string bobj, d10, d11, d12, d13, d14] 38
  have hb2 := boxed_below w0 (.cells (#[.int .i64 op', .string bid, .string bother, d3, d4, d5, d6, d7, d8, .string bobj, d10, d11, d12, d13, d14]) 38)
  have hz2 := boxed_size w0 (.cells (#[.int .i64 op', .string bid, .string bother, d3, d4, d5, d6, d7, d8, .string bobj, d10, d11, d12, d13, d14]) 38)
  generalize World.alloc w0 _ = wb at *
  have hbw := hb0.trans (hb2.mono hb0.size)
  generalize hB : w.heap.size = B at *
  generalize hC : w0.heap.size = C at *
  obtain rfl : C = B + 1 := by omega
  have hBC : B < B + 1 := by omega
  have s1 : wb.cell? ⟨B, 1, none⟩ = some (.string aid) := (hb2.cell hBC).trans (hra 1 _ rfl)
  have s2 : wb.cell? ⟨B, 2, none⟩ = some (.string aother) := (hb2.cell hBC).trans (hra 2 _ rfl)
  have s3 : wb.cell? ⟨B, 9, none⟩ = some (.string aobj) := (hb2.cell hBC).trans (hra 9 _ rfl)
  have s4 : wb.cell? ⟨B + 1, 1, none⟩ = some (.string bid) := hra2 1 _ rfl
  have s5 : wb.cell? ⟨B + 1, 2, none⟩ = some (.string bother) := hra2 2 _ rfl
  have s6 : wb.cell? ⟨B + 1, 9, none⟩ = some (.string bobj) := hra2 9 _ rfl
  have HBW := Lib.hid hbw
  have HBN : Hid (w.heap.size = B) := Lib.hid hB
  clear hra hra2 hb0 hb2 hbw hB hC
  have hBs : B < wb.heap.size := by omega
  have hCs : B + 1 < wb.heap.size := by omega
  clear hz0 hz2 hBC
  have HS := Lib.hid (⟨s1, s2, s3, s4, s5, s6, Nat.le_refl _⟩ : wb.cell? ⟨B, 1, none⟩ = some (.string aid) ∧ wb.cell? ⟨B, 2, none⟩ = some (.string aother) ∧ wb.cell? ⟨B, 9, none⟩ = some (.string aobj) ∧ wb.cell? ⟨B + 1, 1, none⟩ = some (.string bid) ∧ wb.cell? ⟨B + 1, 2, none⟩ = some (.string bother) ∧ wb.cell? ⟨B + 1, 9, none⟩ = some (.string bobj) ∧ wb.heap.size ≤ wb.heap.size)
  clear s1 s2 s3 s4 s5 s6
  go_cut [5, 6] (fun s5 s6 wx => ∃ g1 g2, s5 = .slice (some ⟨g1, 0, none⟩) 3 3 ∧ s6 = .slice (some ⟨g2, 0, none⟩) 3 3 ∧ Ids3 wx g1 aid aother aobj ∧ Ids3 wx g2 bid bother bobj ∧ Below w.heap.size w wx)
  case first =>
    go_region_held3 (fun w' => w'.cell? ⟨B, 1, none⟩ = some (.string aid) ∧ w'.cell? ⟨B, 2, none⟩ = some (.string aother) ∧ w'.cell? ⟨B, 9, none⟩ = some (.string aobj) ∧ w'.cell? ⟨B + 1, 1, none⟩ = some (.string bid) ∧ w'.cell? ⟨B + 1, 2, none⟩ = some (.string bother) ∧ w'.cell? ⟨B + 1, 9, none⟩ = some (.string bobj) ∧ wb.heap.size ≤ w'.heap.size) (repeat (first | exact HS.out | refine keep6 hBs hCs _ ?_)) (fail)
    · go_wp2_with fail
      go_meet
      exact ⟨_, _, rfl, rfl, ids3_keep (ids3_lit _ _ _ _) (by simp) _, ids3_next _ _ _ _ _, below_two (by have := HBW.out; rw [← HBN.out] at this; exact this) _ _⟩
    · go_wp2_with fail
      go_meet
      exact ⟨_, _, rfl, rfl, ids3_next _ _ _ _ _, ids3_keep (ids3_lit _ _ _ _) (by simp) _, below_two (by have := HBW.out; rw [← HBN.out] at this; exact this) _ _⟩
  case rest =>
    obtain ⟨g1, g2, rfl, rfl, h1, h2, hb⟩ := hcut
    have H1 := Lib.hid h1
    have H2 := Lib.hid h2
    have HB := Lib.hid hb
    clear h1 h2 hb HS HBW hBs hCs
    go_wp2_with fail
    go_loopg [7] 3 (fun c i wr => ∃ k : Nat, k + c = 3 ∧ i = .int .i64 k ∧ ∃ n, wr = wc.drewN n ∧ ∀ i', i' < k → ∀ j, j < 3 → at3 aid aother aobj i' = at3 bid bother bobj j → at3 aid aother aobj i' = ⟨#[]⟩)
    case atStart => exact ⟨0, by omega, rfl, 0, rfl, fun i' h => by omega⟩
    case round =>
      obtain ⟨k, hk, rfl, n, hW, hA⟩ := hrel
      have HW := Lib.hid hW
      have HA := Lib.hid hA
      have HK := Lib.hid hk
      have hk3 : k ≤ 3 := by omega
      clear hW hA hk
      by_cases hlt : k < 3
      · have hki : (k : Int) < 3 := by omega
        go_wp2_with fail
        go_loopg [8] 3 (fun c i wr' => ∃ m : Nat, m + c = 3 ∧ i = .int .i64 m ∧ ∃ n, wr' = wc.drewN n ∧ ∀ j, j < m → at3 aid aother aobj k = at3 bid bother bobj j → at3 aid aother aobj k = ⟨#[]⟩)
        case atStart => exact ⟨0, by omega, rfl, n, HW.out, fun j h => by omega⟩
        case round =>
          obtain ⟨m, hm, rfl, n2, hW2, hA2⟩ := hrel
          have HW2 := Lib.hid hW2
          have HA2 := Lib.hid hA2
          have HM := Lib.hid hm
          have hm3 : m ≤ 3 := by omega
          clear hW2 hA2 hm
          by_cases hmt : m < 3
          · have hmi : (m : Int) < 3 := by omega
            have hcx : wr.cell? ⟨g1, k, none⟩ = some (.string (at3 aid aother aobj k)) := by rw [HW2.out]; exact H1.out.at_ hlt
            have hcy : wr.cell? ⟨g2, m, none⟩ = some (.string (at3 bid bother bobj m)) := by rw [HW2.out]; exact H2.out.at_ hmt
            generalize hx : at3 aid aother aobj k = xi at *
            generalize hy : at3 bid bother bobj m = yj at *
            have HX := Lib.hid hx
            have HY := Lib.hid hy
            clear hx hy
            have HA3 : Hid ((xi = yj → xi = ⟨#[]⟩) → ∀ j, j < m + 1 → xi = at3 bid bother bobj j → xi = ⟨#[]⟩) := Lib.hid fun h j hj he => by
              by_cases hjm : j = m
              · subst hjm; rw [HY.out] at he; exact h he
              · exact HA2.out j (by omega) he
            by_cases e : xi = yj
            · have b1 : (xi.toList == yj.toList) = true := by rw [e]; simp
              by_cases e0 : xi = ⟨#[]⟩
              · have HA4 := Lib.hid (HA3.out (fun _ => e0))
                have b2 := empty_yes e0
                clear e e0
                go_wp2_with fail
                go_quiet (fail)
                go_wp2_with fail
                have hm1 := HM.out
                go_roundg (2 - m)
                case measure => omega
                case rel => exact ⟨m + 1, by omega, by go_num, n2 + nq, by rw [HW2.out, World.drewN_drewN], HA4.out⟩
              · have b2 := empty_no e0
                clear e e0
                go_wp2_with fail
                go_quiet (fail)
                go_wp2_with fail
                go_ret
                exact ⟨false, rfl, by rw [HW2.out, World.drewN_drewN]; exact below_dr HB.out _, fun h => by cases h⟩
            · have b1 : (xi.toList == yj.toList) = false := beq_eq_false_iff_ne.2 (fun h => e (str_eq (by simpa only [ByteArray.toList_eq] using h)))
              have HA4 := Lib.hid (HA3.out (fun h => absurd h e))
              clear e
              go_wp2_with fail
              go_quiet (fail)
              go_wp2_with fail
              have hm1 := HM.out
              go_roundg (2 - m)
              case measure => omega
              case rel => exact ⟨m + 1, by omega, by go_num, n2 + nq, by rw [HW2.out, World.drewN_drewN], HA4.out⟩
          · have hmi : decide ((m : Int) < 3) = false := by simp; omega
            have hmi2 : decide (m < 3) = false := by simp; omega
            have HM3 : Hid (m = 3) := Lib.hid (by omega)
            go_wp2_with fail
            have hk1 := HK.out
            go_roundg (2 - k)
            case measure => omega
            case rel => exact ⟨k + 1, by omega, by go_num, n2, HW2.out, fun i' hi' j hj he => by
              by_cases hik : i' = k
              · subst hik; exact HA2.out j (by rw [HM3.out]; exact hj) he
              · exact HA.out i' (by omega) j hj he⟩
      · have hki : decide ((k : Int) < 3) = false := by simp; omega
        have hki2 : decide (k < 3) = false := by simp; omega
        have HK3 : Hid (k = 3) := Lib.hid (by omega)
        go_wp2_with fail
        go_ret
        refine ⟨true, rfl, by rw [HW.out]; exact below_dr HB.out _, fun _ x hx y hy he => ?_⟩
        obtain ⟨i, hi, rfl⟩ := mem_at3 hx
        obtain ⟨j, hj, rfl⟩ := mem_at3 hy
        exact HA.out i (by rw [HK3.out]; exact hi) j hj he

end Go.Proofs.Ytkbjfmlfmmmknaa
