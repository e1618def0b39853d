/- The walk of SweepPairs. -/
import Derived.Test.YtdpbihbcggpobaaT13
namespace Go.Proofs.Ytdpbihbcggpobaa
open Go.RowKit Go.Maps

def Yes (W : World) (e : Ending) (w' : World) : Prop := e = .returned (.bool true) ∧ Below W.heap.size W w'

theorem allP_pre (f : Nat → Nat → Int) (n : Nat) : ∀ d i, i + d = n → ∃ S, allP f n n = allP f i n ++ S
  | 0, i, h => by
    obtain rfl : i = n := by omega
    exact ⟨[], by simp⟩
  | d + 1, i, h => by
    obtain ⟨S, hS⟩ := allP_pre f n d (i + 1) (by omega)
    exact ⟨rowP f i (i + 1) n ++ S, by rw [hS, allP_step, List.append_assoc]⟩
theorem kind_at {l : List Sg} {i j : Nat} (hi : i < l.length) (hj : j < l.length) : kindOf l i j = meets l[i] l[j] := by
  unfold kindOf
  rw [List.getD_eq_getElem?_getD, List.getD_eq_getElem?_getD, List.getElem?_eq_getElem hi, List.getElem?_eq_getElem hj]
  rfl
theorem eight {w : World} {g o1 o2 : Nat} {s t : Sg} (h1 : w.rangeAt g o1 (sgCells s)) (h2 : w.rangeAt g o2 (sgCells t)) :
    w.cell? ⟨g, o1, none⟩ = some (.int .i64 s.1.1) ∧ w.cell? ⟨g, o1 + 1, none⟩ = some (.int .i64 s.1.2) ∧ w.cell? ⟨g, o1 + 2, none⟩ = some (.int .i64 s.2.1) ∧ w.cell? ⟨g, o1 + 3, none⟩ = some (.int .i64 s.2.2) ∧
    w.cell? ⟨g, o2, none⟩ = some (.int .i64 t.1.1) ∧ w.cell? ⟨g, o2 + 1, none⟩ = some (.int .i64 t.1.2) ∧ w.cell? ⟨g, o2 + 2, none⟩ = some (.int .i64 t.2.1) ∧ w.cell? ⟨g, o2 + 3, none⟩ = some (.int .i64 t.2.2) :=
  ⟨h1 0 _ rfl, h1 1 _ rfl, h1 2 _ rfl, h1 3 _ rfl, h2 0 _ rfl, h2 1 _ rfl, h2 2 _ rfl, h2 3 _ rfl⟩

theorem eight_below {w w' : World} {g o1 o2 : Nat} {s t : Sg} (h : w.cell? ⟨g, o1, none⟩ = some (.int .i64 s.1.1) ∧ w.cell? ⟨g, o1 + 1, none⟩ = some (.int .i64 s.1.2) ∧ w.cell? ⟨g, o1 + 2, none⟩ = some (.int .i64 s.2.1) ∧ w.cell? ⟨g, o1 + 3, none⟩ = some (.int .i64 s.2.2) ∧
    w.cell? ⟨g, o2, none⟩ = some (.int .i64 t.1.1) ∧ w.cell? ⟨g, o2 + 1, none⟩ = some (.int .i64 t.1.2) ∧ w.cell? ⟨g, o2 + 2, none⟩ = some (.int .i64 t.2.1) ∧ w.cell? ⟨g, o2 + 3, none⟩ = some (.int .i64 t.2.2)) (hg : g < w.heap.size) (hb : Below w.heap.size w w') :
    w'.cell? ⟨g, o1, none⟩ = some (.int .i64 s.1.1) ∧ w'.cell? ⟨g, o1 + 1, none⟩ = some (.int .i64 s.1.2) ∧ w'.cell? ⟨g, o1 + 2, none⟩ = some (.int .i64 s.2.1) ∧ w'.cell? ⟨g, o1 + 3, none⟩ = some (.int .i64 s.2.2) ∧
    w'.cell? ⟨g, o2, none⟩ = some (.int .i64 t.1.1) ∧ w'.cell? ⟨g, o2 + 1, none⟩ = some (.int .i64 t.1.2) ∧ w'.cell? ⟨g, o2 + 2, none⟩ = some (.int .i64 t.2.1) ∧ w'.cell? ⟨g, o2 + 3, none⟩ = some (.int .i64 t.2.2) :=
  ⟨(hb.cell (p := ⟨g, _, none⟩) hg).trans h.1, (hb.cell (p := ⟨g, _, none⟩) hg).trans h.2.1, (hb.cell (p := ⟨g, _, none⟩) hg).trans h.2.2.1, (hb.cell (p := ⟨g, _, none⟩) hg).trans h.2.2.2.1, (hb.cell (p := ⟨g, _, none⟩) hg).trans h.2.2.2.2.1, (hb.cell (p := ⟨g, _, none⟩) hg).trans h.2.2.2.2.2.1, (hb.cell (p := ⟨g, _, none⟩) hg).trans h.2.2.2.2.2.2.1, (hb.cell (p := ⟨g, _, none⟩) hg).trans h.2.2.2.2.2.2.2⟩
theorem rowP_len (f : Nat → Nat → Int) (i n : Nat) : ∀ d j, d = n - j → (rowP f i j n).length ≤ d
  | 0, j, h => by rw [rowP_end f (by omega)]; simp
  | d + 1, j, h => by
    rw [rowP_step f (by omega), List.length_append]
    have := rowP_len f i n d (j + 1) (by omega)
    have : (one f i j).length ≤ 1 := by unfold one; split <;> simp
    omega
theorem allP_len (f : Nat → Nat → Int) (n : Nat) : ∀ m, (allP f m n).length ≤ m * n
  | 0 => by simp [allP]
  | m + 1 => by
    rw [allP_step, List.length_append, Nat.succ_mul]
    have := allP_len f n m
    have := rowP_len f m n _ (m + 1) rfl
    omega
theorem allP_small {l : List Sg} (h : l.length ≤ 40) : (allP (kindOf l) l.length l.length).length ≤ 1600 :=
  Nat.le_trans (allP_len _ _ _) (Nat.mul_le_mul h h)

set_option maxHeartbeats 8000000 in
theorem pairs_walk (W : World) (v : Value) (l : List Sg) (hv : SegsAt W v l) : Calls Try.prog 4 #[v] W (Yes W) := by
  obtain ⟨p, c, rfl, hp⟩ := hv
  by_cases hn : l.length ≤ 40
  · have hcm : decide ((l.length : Int) > 40) = false := by simp; omega
    have hcm2 : decide ((40 : Int) < (l.length : Int)) = false := by simp; omega
    have HN := Lib.hid hn
    have HV := Lib.hid (show SegsAt W (.slice p l.length c) l from ⟨p, c, rfl, hp⟩)
    clear hp hn
    have hne := neq36
    have hg := guard36
    go_enter Try.func4, Try.ntmps4
    go_upto_region 5 with (first
      | (go_at_call 9; refine (head_any _).mono ?_; rintro en w1 ⟨rfl, hb⟩; have HB1 := Lib.hid hb; clear hb)
      | (go_at_call 10; refine (all_m l _ _ (HV.out.below HB1.out) (by have := HN.out; omega)).mono ?_; rintro en w2 ⟨v2, rfl, hm, hb⟩; have HB2 := Lib.hid (HB1.out.trans (hb.mono HB1.out.size)); have HM := Lib.hid hm; clear hb hm))
    have HV2 := Lib.hid (HV.out.below HB2.out)
    obtain ⟨q, d, rfl, hq⟩ := HM.out
    have HQ := Lib.hid hq
    clear hq HM HV HB1
    generalize hL : allP (kindOf l) l.length l.length = L at *
    have HL := Lib.hid hL
    have HLB : Hid (L.length ≤ 1600) := Lib.hid (by rw [← hL]; exact allP_small HN.out)
    clear hL
    go_upto_region 9 with fail
    go_loopg [6, 7] l.length (fun c' kv iv wr => ∃ i : Nat, i + c' = l.length ∧ iv = .int .i64 i ∧ kv = .int .i64 (allP (kindOf l) i l.length).length ∧ Below w2.heap.size w2 wr)
    case atStart => exact ⟨0, by omega, rfl, rfl, Below.refl _ _⟩
    case round =>
      obtain ⟨i, hi, rfl, rfl, hb⟩ := hrel
      have HB3 := Lib.hid hb
      have HI := Lib.hid hi
      clear hb hi
      have hn1 := HN.out
      by_cases hil : i < l.length
      · have hki : decide ((i : Int) < (l.length : Int)) = true := by simp; omega
        obtain ⟨S, hS⟩ := allP_pre (kindOf l) l.length (l.length - (i + 1)) (i + 1) (by omega)
        have HS := Lib.hid (HL.out.symm.trans hS)
        clear hS
        go_upto_region 12 with fail
        go_loopg [6, 8] (l.length - (i + 1)) (fun c' kv jv wr => ∃ (j : Nat) (P : List Mt), j + c' = l.length ∧ i + 1 ≤ j ∧ jv = .int .i64 j ∧ kv = .int .i64 P.length ∧ P ++ rowP (kindOf l) i j l.length = allP (kindOf l) (i + 1) l.length ∧ Below w2.heap.size w2 wr)
        case atStart => exact ⟨i + 1, allP (kindOf l) i l.length, by omega, by omega, by congr 1, rfl, by rw [allP_step], HB3.out⟩
        case round =>
          obtain ⟨j, P, hj, hij, rfl, rfl, hP, hb⟩ := hrel
          have HB4 := Lib.hid hb
          have HJ := Lib.hid (And.intro hj hij)
          clear hb hj hij HB3
          by_cases hjl : j < l.length
          · have hkj : decide ((j : Int) < (l.length : Int)) = true := by simp; omega
            have hst := rowP_step (kindOf l) (i := i) hjl
            rw [hst] at hP
            clear hst
            have hkd := kind_at hil hjl
            unfold one at hP
            rw [hkd] at hP
            clear hkd
            obtain ⟨p', c', e', hpp⟩ := HV2.out
            obtain ⟨rfl, rfl⟩ : p = p' ∧ c = c' := by cases e'; exact ⟨rfl, rfl⟩
            clear e'
            rcases hpp with hpp | ⟨g, o, rfl, hgl, hra⟩
            · rw [hpp] at hil; simp at hil
            have hx := range_old (hra i hil) hgl HB4.out
            have hy := range_old (hra j hjl) hgl HB4.out
            have hE := eight hx hy
            have HE := Lib.hid hE
            have HGL := Lib.hid (Nat.lt_of_lt_of_le hgl HB4.out.size)
            clear hra hx hy hgl hE
            generalize l[i] = s at *
            generalize l[j] = t at *
            have HP := Lib.hid hP
            clear hP
            have hmt := meets_any s t
            unfold IntB sg at hmt
            have HM := Lib.hid hmt
            clear hmt
            go_upto_region 14 with fail
            go_region_held3 (fun w' => w'.cell? ⟨g, o + i * 4, none⟩ = some (.int .i64 s.1.1) ∧ w'.cell? ⟨g, o + i * 4 + 1, none⟩ = some (.int .i64 s.1.2) ∧ w'.cell? ⟨g, o + i * 4 + 2, none⟩ = some (.int .i64 s.2.1) ∧ w'.cell? ⟨g, o + i * 4 + 3, none⟩ = some (.int .i64 s.2.2) ∧ w'.cell? ⟨g, o + j * 4, none⟩ = some (.int .i64 t.1.1) ∧ w'.cell? ⟨g, o + j * 4 + 1, none⟩ = some (.int .i64 t.1.2) ∧ w'.cell? ⟨g, o + j * 4 + 2, none⟩ = some (.int .i64 t.2.1) ∧ w'.cell? ⟨g, o + j * 4 + 3, none⟩ = some (.int .i64 t.2.2)) (first | exact HE.out | exact HE2.out)
              (first | (go_at_call 13; (with_reducible refine (HM.out _).mono ?_); rintro en w5 ⟨rfl, hb⟩; have hb5 : Below wr.heap.size wr w5 := (by first | exact hb | exact (below_drewN wr 1).trans hb); have HE2 := Lib.hid (eight_below HE.out HGL.out hb5); have HB5 := Lib.hid (HB4.out.trans (hb5.mono HB4.out.size)); clear hb hb5))
            generalize meets s t = M at *
            have hj1 := HJ.out
            by_cases hM : M = 0
            · subst hM
              rw [if_pos rfl, List.nil_append] at HP
              go_wp2_with fail
              go_roundg (gk - 1)
              case measure => omega
              case rel => exact ⟨j + 1, P, by omega, by omega, by congr 1, rfl, HP.out, HB5.out⟩
            · rw [if_neg hM] at HP
              have hLP : L = P ++ [(i, j, M)] ++ (rowP (kindOf l) i (j + 1) l.length ++ S) := by rw [HS.out, ← HP.out]; simp
              have hPL : P.length < L.length := by rw [hLP]; simp
              have hat : L[P.length] = (i, j, M) := by
                have e : L[P.length]? = some (i, j, M) := by rw [hLP]; simp
                rw [List.getElem?_eq_getElem hPL] at e
                exact Option.some.inj e
              have hLb : L.length ≤ 1600 := HLB.out
              rcases HQ.out with hq | ⟨g1, rfl, hg1, hr1⟩
              · rw [hq] at hPL; simp at hPL
              have h3 := range_old (hr1 P.length hPL) hg1 HB5.out
              rw [hat] at h3
              have hd : mtEq (i : Int) (j : Int) M (i : Int) (j : Int) M = true := (mtEq_dec (i, j, M) (i, j, M)).trans (decide_eq_true rfl)
              have c0 : w5.cell? ⟨g1, P.length * 3, none⟩ = some (.int .i64 (i : Int)) := h3 0 _ rfl
              have c1 : w5.cell? ⟨g1, P.length * 3 + 1, none⟩ = some (.int .i64 (j : Int)) := h3 1 _ rfl
              have c2 : w5.cell? ⟨g1, P.length * 3 + 2, none⟩ = some (.int .i64 M) := h3 2 _ rfl
              clear hr1 h3 hat hLP
              have hm1 : decide (M = 0) = false := by simpa using hM
              have hm2 : (M == 0) = false := by simpa using hM
              have hk1 : decide ((P.length : Int) ≥ (L.length : Int)) = false := by simp; omega
              have hk2 : decide ((L.length : Int) ≤ (P.length : Int)) = false := by simp; omega
              have HPL := Lib.hid hPL
              go_upto_region 16 with fail
              set_option maxRecDepth 20000 in go_wp2_with fail
              go_roundg (gk - 1)
              case measure => omega
              case rel => exact ⟨j + 1, P ++ [(i, j, M)], by omega, by omega, by congr 1, by rw [List.length_append, List.length_singleton]; congr 1, by rw [List.append_assoc]; exact HP.out, HB5.out⟩
          · have hkj : decide ((j : Int) < (l.length : Int)) = false := by simp; omega
            rw [rowP_end _ (by omega), List.append_nil] at hP
            subst hP
            have hi1 := HI.out
            go_wp2_with fail
            go_roundg (l.length - (i + 1))
            case measure => omega
            case rel => exact ⟨i + 1, by omega, by congr 1, rfl, HB4.out⟩
      · have hki : decide ((i : Int) < (l.length : Int)) = false := by simp; omega
        have hi1 := HI.out
        obtain rfl : i = l.length := by omega
        rw [HL.out]
        have hfin : Yes W (.returned (.bool true)) wr := ⟨rfl, HB2.out.trans (HB3.out.mono HB2.out.size)⟩
        have HF := Lib.hid hfin
        clear hfin
        have hk2 : decide ((L.length : Int) = (L.length : Int)) = true := by simp
        go_wp2_with fail
        go_ret
        exact HF.out
  · have hcm : decide ((l.length : Int) > 40) = true := by simp; omega
    have hcm2 : decide ((40 : Int) < (l.length : Int)) = true := by simp; omega
    clear hp
    go_enter Try.func4, Try.ntmps4
    go_wp2_with (go_at_call 9; refine (head_any _).mono ?_; rintro en w1 ⟨rfl, hb⟩; have HB1 := Lib.hid hb; clear hb)
    go_ret
    exact ⟨rfl, HB1.out⟩

end Go.Proofs.Ytdpbihbcggpobaa
