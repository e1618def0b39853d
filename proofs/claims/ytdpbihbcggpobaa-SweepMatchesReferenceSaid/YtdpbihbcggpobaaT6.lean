/- A row of items that is written over; the walks of the predicate, of the library's IndexFunc. -/
import Derived.Test.YtdpbihbcggpobaaT5
import Derived.Lib.SliceRun
namespace Go.Proofs.Ytdpbihbcggpobaa
open Go.RowKit

/-! ### a run of cells written over -/
theorem blk_splice {B : Nat} {t : TypeId} : ∀ (vs A M C : List Value) (w : World), M.length = vs.length → Blk w B (A ++ M ++ C) t → Blk (w.setCells B A.length vs) B (A ++ vs ++ C) t
  | [], A, M, C, w, hl, h => by
    have : M = [] := List.eq_nil_of_length_eq_zero (by simpa using hl)
    subst this; exact h
  | v :: r, A, [], C, w, hl, h => by simp at hl
  | v :: r, A, m :: M, C, w, hl, h => by
    have h1 := h.set A.length v
    have e : (A ++ (m :: M) ++ C).set A.length v = (A ++ [v]) ++ M ++ C := by simp
    rw [e] at h1
    have ih := blk_splice r (A ++ [v]) M C _ (by simpa using hl) h1
    have e2 : (A ++ [v]).length = A.length + 1 := by simp
    rw [e2] at ih
    have e3 : A ++ [v] ++ r ++ C = A ++ (v :: r) ++ C := by simp
    rw [e3] at ih
    exact ih
theorem setCells_grown (B : Nat) : ∀ (vs : List Value) (o : Nat) (w : World), w.grownBy (w.setCells B o vs) (some B)
  | [], o, w => World.grownBy.refl _ _
  | v :: r, o, w => by
    have h1 : w.grownBy (w.setCell ⟨B, o, none⟩ v) (some B) := ⟨rfl, rfl, rfl, by simp, fun k _ hk => heap_setCell_other w ⟨B, o, none⟩ k v (fun e => hk (by rw [e]))⟩
    have h2 := setCells_grown B r (o + 1) (w.setCell ⟨B, o, none⟩ v)
    exact ⟨h2.os.trans h1.os, h2.tape.trans h1.tape, h2.output.trans h1.output, Nat.le_trans h1.size h2.size, fun k hk hn => (h2.block k (Nat.lt_of_lt_of_le hk h1.size) hn).trans (h1.block k hk hn)⟩

def RowIs (w : World) (g : Nat) (L : List It) (rest : List Value) : Prop := Blk w g (L.flatMap itCells ++ rest) 49
theorem it_split {L : List It} {k : Nat} (hk : k < L.length) : L.flatMap itCells = (L.take k).flatMap itCells ++ itCells L[k] ++ (L.drop (k + 1)).flatMap itCells := by
  have e : L = L.take k ++ L[k] :: L.drop (k + 1) := by rw [List.getElem_cons_drop]; exact (List.take_append_drop k L).symm
  conv => lhs; rw [e]
  rw [List.flatMap_append, List.flatMap_cons, List.append_assoc]
theorem it_take_len {L : List It} {k : Nat} (hk : k ≤ L.length) : ((L.take k).flatMap itCells).length = k * 9 := by
  rw [flat_length itCells 9 itCells_len, List.length_take]; congr 1; omega
theorem RowIs.range {w : World} {g : Nat} {L : List It} {rest : List Value} (h : RowIs w g L rest) {k : Nat} (hk : k < L.length) : w.rangeAt g (k * 9) (itCells L[k]) := by
  intro j v hj
  have hj9 : j < 9 := by
    have := (List.getElem?_eq_some_iff.1 hj).1; rw [itCells_len] at this; exact this
  refine Blk.c h (k * 9 + j) ?_
  rw [List.getElem?_append_left (by rw [flat_length itCells 9 itCells_len]; have : (k + 1) * 9 ≤ L.length * 9 := Nat.mul_le_mul_right 9 hk; omega), flat_at itCells 9 itCells_len L k j hk hj9]
  exact hj
theorem RowIs.there {w : World} {g : Nat} {L : List It} {rest : List Value} (h : RowIs w g L rest) {k : Nat} (hk : k < L.length) : w.there g (k * 9) 9 := by
  intro j hj
  have hr := h.range hk j ((itCells L[k])[j]'(by rw [itCells_len]; exact hj)) (List.getElem?_eq_getElem _)
  exact ⟨by rw [hr]; rfl, Blk.f h _⟩
theorem RowIs.set {w : World} {g : Nat} {L : List It} {rest : List Value} (h : RowIs w g L rest) {k : Nat} (hk : k < L.length) (v : It) : RowIs (w.setCells g (k * 9) (itCells v)) g (L.set k v) rest := by
  have h' : Blk w g ((L.take k).flatMap itCells ++ itCells L[k] ++ ((L.drop (k + 1)).flatMap itCells ++ rest)) 49 := by
    unfold RowIs at h
    rw [it_split hk, List.append_assoc] at h
    exact h
  have h2 := blk_splice (itCells v) ((L.take k).flatMap itCells) (itCells L[k]) ((L.drop (k + 1)).flatMap itCells ++ rest) w rfl h'
  rw [it_take_len (Nat.le_of_lt hk)] at h2
  unfold RowIs
  have hk' : k < (L.set k v).length := by simpa using hk
  rw [it_split hk']
  have e1 : (L.set k v).take k = L.take k := List.take_set_of_le (Nat.le_refl k)
  have e2 : (L.set k v).drop (k + 1) = L.drop (k + 1) := by rw [List.drop_set_of_lt (by omega)]
  have e3 : (L.set k v)[k] = v := by simp
  rw [e1, e2, e3, List.append_assoc]
  exact h2
theorem RowIs.below {w w' : World} {g : Nat} {L : List It} {rest : List Value} (h : RowIs w g L rest) (hb : Below w.heap.size w w') : RowIs w' g L rest := Blk.below h hb

theorem info49 : (Try.prog.info? 49).map (·.size) = some 9 := by kernel_rfl
theorem at_load49 {P : Program} {ops : Array Oper} {rest : List Oper} {o : Oper} {a : Act} {w : World} {Q : Exit → Act → World → Prop} (x : Operand) (_ho : o.op = .load 49 x) (h : wpList P ops Q (o :: rest) a w) : wpList P ops Q (o :: rest) a w := h
theorem at_store49 {P : Program} {ops : Array Oper} {rest : List Oper} {o : Oper} {a : Act} {w : World} {Q : Exit → Act → World → Prop} (x y : Operand) (_ho : o.op = .store 49 x y) (h : wpList P ops Q (o :: rest) a w) : wpList P ops Q (o :: rest) a w := h

/- The predicate: whether an item's end lies before a number that stands in the captured item. -/
set_option maxHeartbeats 2000000 in
theorem pred_any (b : It) (A : Nat) (xl : Int) (w : World) (hc : w.cell? ⟨A, 5, none⟩ = some (.int .i64 xl)) (hA : A < w.heap.size) : Calls Try.prog 24 #[it b, .pointer (some ⟨A, 0, none⟩)] w (BoolB (decide (b.xh < xl)) w) := by
  unfold it itCells
  generalize b.xl = bxl
  generalize b.xh = bxh
  generalize b.yl = byl
  generalize b.yh = byh
  go_enter Try.func24, Try.ntmps24
  go_wp2_with fail
  go_ret
  exact ⟨rfl, below_new _ _⟩

def IdxPost (w : World) (l : List It) (xl : Int) (e : Ending) (w' : World) : Prop :=
  ∃ r : Int, e = .returned (.int .i64 r) ∧ Below w.heap.size w w' ∧ ((r = -1 ∧ ∀ b ∈ l, decide (b.xh < xl) = false) ∨ ∃ k : Nat, ∃ hk : k < l.length, r = k ∧ decide (l[k].xh < xl) = true ∧ ∀ j (hj : j < k), decide (l[j].xh < xl) = false)

theorem idx_zero (p : Option Addr) (c A : Nat) (xl : Int) (w : World) : Calls Try.prog 36 #[.slice p 0 c, .func (.func 24) #[] #[.pointer (some ⟨A, 0, none⟩)]] w (IdxPost w [] xl) := by
  go_enter Try.func36, Try.ntmps36
  go_wp2_with fail
  refine wp_loop_rounds 1 ?_
  rw [rounds_succ]
  go_wp2_with fail
  go_ret
  exact ⟨-1, rfl, Below.refl _ _, .inl ⟨rfl, fun b hb => by cases hb⟩⟩

set_option maxHeartbeats 4000000 in
theorem idx_some (g c A : Nat) (xl : Int) (w : World) (l : List It) (rest : List Value) (h : RowIs w g l rest) (hc : w.cell? ⟨A, 5, none⟩ = some (.int .i64 xl)) (hA : A < w.heap.size) (hl : l.length ≤ 1000000) :
    Calls Try.prog 36 #[.slice (some ⟨g, 0, none⟩) l.length c, .func (.func 24) #[] #[.pointer (some ⟨A, 0, none⟩)]] w (IdxPost w l xl) := by
  have H := Lib.hid h
  have HC := Lib.hid (And.intro hc hA)
  clear h hc hA
  go_enter Try.func36, Try.ntmps36
  go_wp2_with fail
  go_loopg [8] l.length (fun c' i wr => ∃ k : Nat, k + c' = l.length ∧ i = .int .i64 k ∧ Below w.heap.size w wr ∧ ∀ j (hj : j < l.length), j < k → decide (l[j].xh < xl) = false)
  case atStart => exact ⟨0, by omega, rfl, Below.refl _ _, fun j _ hj => absurd hj (by omega)⟩
  case round =>
    obtain ⟨k, hk, rfl, hb, hq⟩ := hrel
    have hkl : k ≤ l.length := by omega
    have HK := Lib.hid hk
    have HB := Lib.hid hb
    have HQ := Lib.hid hq
    clear hk hb hq
    by_cases hlt : k < l.length
    · have hki : (k : Int) < (l.length : Int) := by omega
      have HRA := Lib.hid ((H.out.below HB.out).range hlt)
      have hp := pred_any l[k] A xl wr ((HB.out.cell (p := ⟨A, 5, none⟩) HC.out.2).trans HC.out.1) (Nat.lt_of_lt_of_le HC.out.2 HB.out.size)
      unfold BoolB it at hp
      cases hd : decide (l[k].xh < xl) with
      | true =>
        rw [hd] at hp
        have HP := Lib.hid hp
        have HD := Lib.hid hd
        clear hp hd
        generalize hcs : itCells l[k] = cs at *
        have HCS := Lib.hid hcs
        clear hcs
        have HL9 : Hid ((Try.prog.info? 49).map (·.size) = some cs.length) := Lib.hid (by rw [info49, ← HCS.out, itCells_len])
        go_wp2_with (first | ((with_reducible refine at_load49 _ rfl ?_); refine wpList_load_mid rfl 49 _ rfl g (k * 9) rfl _ _ HRA.out Try.underlying49 rfl HL9.out ?_) | (go_at_call 24; refine HP.out.mono ?_; rintro en w' ⟨rfl, hb⟩; have HB2 := Lib.hid (HB.out.trans (hb.mono HB.out.size)); clear hb))
        have hfin : IdxPost w l xl (.returned (.int .i64 k)) w' := ⟨k, rfl, HB2.out, .inr ⟨k, hlt, rfl, HD.out, fun j hj => HQ.out j (by omega) hj⟩⟩
        go_ret
        exact hfin
      | false =>
        rw [hd] at hp
        have HP := Lib.hid hp
        have HQ2 : Hid (∀ j (hj : j < l.length), j < k + 1 → decide (l[j].xh < xl) = false) := Lib.hid fun j hj hjk => by
          by_cases e : j = k
          · subst e; exact hd
          · exact HQ.out j hj (by omega)
        clear hp hd
        generalize hcs : itCells l[k] = cs at *
        have HCS := Lib.hid hcs
        clear hcs
        have HL9 : Hid ((Try.prog.info? 49).map (·.size) = some cs.length) := Lib.hid (by rw [info49, ← HCS.out, itCells_len])
        go_wp2_with (first | ((with_reducible refine at_load49 _ rfl ?_); refine wpList_load_mid rfl 49 _ rfl g (k * 9) rfl _ _ HRA.out Try.underlying49 rfl HL9.out ?_) | (go_at_call 24; refine HP.out.mono ?_; rintro en w' ⟨rfl, hb⟩; have HB2 := Lib.hid (HB.out.trans (hb.mono HB.out.size)); clear hb))
        have hk1 := HK.out
        go_roundg (gk - 1)
        case measure => omega
        case rel => exact ⟨k + 1, by omega, by go_num, HB2.out, HQ2.out⟩
    · have hki : decide ((k : Int) < (l.length : Int)) = false := by simp; omega
      have hki2 : decide (k < l.length) = false := by simp; omega
      have hfin : IdxPost w l xl (.returned (.int .i64 (-1))) wr := ⟨-1, rfl, HB.out, .inl ⟨rfl, fun b hb => by
        obtain ⟨j, hj, e⟩ := List.getElem_of_mem hb
        rw [← e]; exact HQ.out j hj (by omega)⟩⟩
      have HFIN := Lib.hid hfin
      clear hfin
      go_wp2_with fail
      go_ret
      exact HFIN.out

end Go.Proofs.Ytdpbihbcggpobaa
