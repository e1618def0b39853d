/- The walk of followed: a lineage behind edits. -/
import Derived.Test.YtkbjfmlfmmmknaaL0
import Derived.Deep.MidRow
namespace Go.Proofs.Ytkbjfmlfmmmknaa
open Go.RowKit Go.Maps Go.WideMaps Go.ChangeMaps Go.Sort

/-- The edits es lie in block B from offset o on. -/
def EdsAt (w : World) (B o : Nat) (es : List EdC) : Prop := ∀ i e, es[i]? = some e → w.rangeAt B (o + i * 15) e.cells

/-- A slice of edits that came in. -/
def Eds (w : World) (v : Value) (es : List EdC) : Prop :=
  (∀ e ∈ es, e.ok) ∧ ∃ A c, v = .slice A es.length c ∧ es.length ≤ c ∧ c ≤ maxLen ∧ (0 < es.length → ∃ B o, A = some ⟨B, o, none⟩ ∧ B < w.heap.size ∧ EdsAt w B o es)

theorem rangeAt_turn {w w' : World} {B o : Nat} {cs : List Value} (h : w.rangeAt B o cs) (hb : w'.heap[B]? = w.heap[B]?) : w'.rangeAt B o cs :=
  fun j v hj => (World.cell?_of_block (a := ⟨B, o + j, none⟩) hb).trans (h j v hj)
theorem Eds.turn {w w' : World} {v : Value} {es : List EdC} (h : Eds w v es) (hb : Below w.heap.size w w') : Eds w' v es := by
  obtain ⟨hok, A, c, rfl, h1, h2, h3⟩ := h
  refine ⟨hok, A, c, rfl, h1, h2, fun h0 => ?_⟩
  obtain ⟨B, o, rfl, hB, hE⟩ := h3 h0
  exact ⟨B, o, rfl, Nat.lt_of_lt_of_le hB hb.size, fun i e he => rangeAt_turn (hE i e he) (hb.block B hB)⟩

/-- The lineage behind edits. -/
def runS (st : St) (es : List EdC) : St := es.foldl (fun s e => step s e.ed) st

theorem runS_snoc (st : St) (es : List EdC) (e : EdC) : runS st (es ++ [e]) = step (runS st es) e.ed := by simp [runS]

def FollowedPost (w : World) (es : List EdC) (en : Ending) (w' : World) : Prop :=
  ∃ x F, en = .returned (.pointer (some ⟨x, 0, none⟩)) ∧ Lin w' x F (4 * es.length) (runS (fun _ => none) es) ∧ Below w.heap.size w w' ∧ ∀ i, F i → w.heap.size ≤ i

theorem info38 : (Try.prog.info? 38).map (·.size) = some 15 := by kernel_rfl

/-- A guard: the operation is a load of an edit. -/
theorem at_load38 {P : Program} {ops : Array Oper} {rest : List Oper} {o : Oper} {a : Act} {w : World} {Q : Exit → Act → World → Prop} (x : Operand) (_ho : o.op = .load 38 x) (h : wpList P ops Q (o :: rest) a w) : wpList P ops Q (o :: rest) a w := h

/-- Between two rounds of followed. -/
def FollR (w : World) (es : List EdC) (x k : Nat) (wr : World) : Prop := ∃ F, Lin wr x F (4 * k) (runS (fun _ => none) (es.take k)) ∧ Below w.heap.size w wr ∧ ∀ i, F i → w.heap.size ≤ i

theorem followed_none (w : World) (A : Option Addr) (c : Nat) : Calls Try.prog 23 #[.slice A 0 c] w (FollowedPost w []) := by
  have hnew := new_any w
  go_enter Try.func23, Try.ntmps23
  go_wp2_with (go_at_call 12; refine hnew.mono ?_; rintro e w1 ⟨x, F, rfl, hL, hB, hF⟩; have HP : Hid (FollowedPost w [] (.returned (.pointer (some ⟨x, 0, none⟩))) w1) := Lib.hid ⟨x, F, rfl, hL, hB, hF⟩; clear hL hB hF)
  refine wp_loop_rounds 1 ?_
  rw [rounds_succ]
  go_wp2_with fail
  go_ret
  exact HP.out

set_option maxHeartbeats 2000000 in
theorem followed_some (w : World) (B o c : Nat) (es : List EdC) (hE : EdsAt w B o es) (hB : B < w.heap.size) (hok : ∀ e ∈ es, e.ok) (hl : es.length ≤ 1000) :
    Calls Try.prog 23 #[.slice (some ⟨B, o, none⟩) es.length c] w (FollowedPost w es) := by
  have hnew := new_any w
  have HE := Lib.hid hE
  have HOK := Lib.hid hok
  clear hE hok
  go_enter Try.func23, Try.ntmps23
  go_wp2_with (go_at_call 12; refine hnew.mono ?_; rintro e w1 ⟨x, F, rfl, hL, hB1, hF⟩; have HR0 : Hid (FollR w es x 0 w1) := Lib.hid ⟨F, by simpa [runS] using hL, hB1, hF⟩; clear hL hB1 hF hnew)
  go_loopg [4] es.length (fun c i wr => ∃ k : Nat, k + c = es.length ∧ i = .int .i64 k ∧ FollR w es x k wr)
  case atStart => exact ⟨0, by omega, rfl, HR0.out⟩
  case round =>
    clear HR0
    obtain ⟨k, hk, rfl, hR⟩ := hrel
    have hkl : k ≤ es.length := by omega
    have HK := Lib.hid hk
    clear hk
    have HR := Lib.hid hR
    clear hR
    by_cases hlt : k < es.length
    · obtain ⟨e, he⟩ : ∃ e, es[k]? = some e := ⟨_, List.getElem?_eq_getElem hlt⟩
      have hra : wr.rangeAt B (o + k * 15) e.cells := by
        obtain ⟨F, hL, hBl, hF⟩ := HR.out
        exact rangeAt_turn (HE.out k e he) (hBl.block B hB)
      have HRA := Lib.hid hra
      have HEE := Lib.hid he
      have hfo : ∃ F, Lin wr x F (4 * k) (runS (fun _ => none) (es.take k)) ∧ Below w.heap.size w wr ∧ ∀ i, F i → w.heap.size ≤ i := HR.out
      obtain ⟨F, hL, hBl, hF⟩ := hfo
      have hcall := follow_val wr x (4 * k) F _ hL (by omega) e (HOK.out e (List.mem_of_getElem? he))
      have HBL := Lib.hid (And.intro hBl hF)
      clear hra he hL hBl hF
      go_wp2_with (first | ((with_reducible refine at_load38 _ rfl ?_); refine wpList_load_mid rfl 38 _ rfl B (o + k * 15) rfl e.cells _ HRA.out Try.underlying38 rfl info38 ?_) | (go_at_call 14; refine hcall.mono ?_; rintro en w2 ⟨rfl, F2, hL2, hT2, hF2⟩; have HL2 := Lib.hid hL2; have HT2 := Lib.hid hT2; have HF2 := Lib.hid hF2; clear hL2 hT2 hF2))
      have h1 : FollR w es x (k + 1) w2 := by
        have ht : es.take (k + 1) = es.take k ++ [e] := by rw [List.take_add_one, HEE.out]; rfl
        refine ⟨F2, by rw [ht, runS_snoc]; exact HL2.out, HBL.out.1.trans (HT2.out.below HBL.out.2 HBL.out.1.size), fun i hi => (HF2.out i hi).elim (HBL.out.2 i) (fun h => Nat.le_trans HBL.out.1.size h)⟩
      have hk1 := HK.out
      go_roundg (gk - 1)
      case measure => omega
      case rel => exact ⟨k + 1, by omega, by go_num, h1⟩
    · have hke : k = es.length := by omega
      have hfin : FollowedPost w es (.returned (.pointer (some ⟨x, 0, none⟩))) wr := by
        obtain ⟨F, hL, hBl, hF⟩ := HR.out
        rw [hke, List.take_length] at hL
        exact ⟨x, F, rfl, hL, hBl, hF⟩
      have HFIN := Lib.hid hfin
      clear hfin hke
      go_wp2_with fail
      go_ret
      exact HFIN.out

/-- followed, at a slice of edits. -/
theorem followed_any (w : World) (v : Value) (es : List EdC) (h : Eds w v es) (hl : es.length ≤ 1000) : Calls Try.prog 23 #[v] w (FollowedPost w es) := by
  obtain ⟨hok, A, c, rfl, h1, h2, h3⟩ := h
  by_cases h0 : es.length = 0
  · obtain rfl := List.eq_nil_of_length_eq_zero h0
    exact followed_none w A c
  · obtain ⟨B, o, rfl, hB, hE⟩ := h3 (by omega)
    exact followed_some w B o c es hE hB hok hl

end Go.Proofs.Ytkbjfmlfmmmknaa
