/- The walk of the reference's drop: the pairs are copied but for some. -/
import Derived.Test.YtkbjfmlfmmmknaaM2
namespace Go.Proofs.Ytkbjfmlfmmmknaa
open Go.RowKit Go.Maps Go.WideMaps Go.ChangeMaps Go.Sort

theorem info70s : (Try.prog.info? 70).map (·.size) = some 2 := by kernel_rfl
theorem at_load70 {P : Program} {ops : Array Oper} {rest : List Oper} {o : Oper} {a : Act} {w : World} {Q : Exit → Act → World → Prop} (x : Operand) (_ho : o.op = .load 70 x) (h : wpList P ops Q (o :: rest) a w) : wpList P ops Q (o :: rest) a w := h

def keepP (k : Key) (p : Key × Key) : Bool := !(p.2 == k)

theorem PLat.range {w : World} {g : Nat} {ps : List (Key × Key)} (h : PLat w g ps) {k : Nat} (hk : k < ps.length) : w.rangeAt g (k * 2) [.string (toB ps[k].1), .string (toB ps[k].2)] := by
  intro j v hj
  match j, hj with
  | 0, hj => rw [← Option.some.inj hj]; exact h.fst k hk
  | 1, hj => rw [← Option.some.inj hj]; exact h.snd k hk

def DropR (w : World) (ps : List (Key × Key)) (key : Key) (k : Nat) (v : Value) (wr : World) : Prop :=
  OwnP wr w.heap.size v ((ps.take k).filter (keepP key)) ∧ Below w.heap.size w wr

theorem filter_len (ps : List (Key × Key)) (key : Key) (k : Nat) : ((ps.take k).filter (keepP key)).length ≤ ps.length :=
  Nat.le_trans (List.length_filter_le _ _) (by rw [List.length_take]; omega)

theorem DropR.keep {w wr w' : World} {ps : List (Key × Key)} {key : Key} {k : Nat} {v v' : Value} {o : Obj} (hk : k < ps.length) (h : DropR w ps key k v wr) (hb : keepP key ps[k] = true)
    (hown : OwnP w' w.heap.size v' ((ps.take k).filter (keepP key) ++ [ps[k]])) (hg : (wr.alloc o).grownBy w' v.ownBlock) : DropR w ps key (k + 1) v' w' := by
  have e : (ps.take (k + 1)).filter (keepP key) = (ps.take k).filter (keepP key) ++ [ps[k]] := by
    rw [List.take_add_one, List.getElem?_eq_getElem hk, List.filter_append]
    simp [hb]
  refine ⟨by rw [e]; exact hown, h.2.trans ?_⟩
  have hb2 : Below w.heap.size wr (wr.alloc o) := (Below.refl _ _).alloc h.2.size _
  exact hb2.trans ⟨hg.os, hg.tape, hg.output, hg.size, fun i hi => hg.block i (by have := h.2.size; simp; omega) (fun e => by have := h.1.base_le e.symm; omega)⟩
theorem DropR.skip {w wr : World} {ps : List (Key × Key)} {key : Key} {k : Nat} {v : Value} (hk : k < ps.length) (h : DropR w ps key k v wr) (hb : keepP key ps[k] = false) : DropR w ps key (k + 1) v wr := by
  have e : (ps.take (k + 1)).filter (keepP key) = (ps.take k).filter (keepP key) := by
    rw [List.take_add_one, List.getElem?_eq_getElem hk, List.filter_append]
    simp [hb]
  exact ⟨by rw [e]; exact h.1, h.2⟩

set_option maxHeartbeats 4000000 in
theorem rdrop_any (w : World) (y : Nat) (vp vm : Value) (r : RS) (a : ByteArray) (h : RLin w y vp vm r) (hl : r.ps.length ≤ 900000) :
    Calls Try.prog 35 #[.pointer (some ⟨y, 0, none⟩), .string a] w (RDone w y vp vm (r.drop a.data.toList)) := by
  have hy : YAt w y vp vm := h.yc
  have HY := Lib.hid hy
  have hylt := hy.lt
  have HH := Lib.hid h
  obtain ⟨A, c, rfl, hpl, hA⟩ := h.p.shape
  have HA := Lib.hid hA
  have HSTART : Hid (DropR w r.ps a.data.toList 0 (.slice none 0 0) w) := Lib.hid ⟨World.ownsRow_nil _ _ _ _, Below.refl _ _⟩
  clear h hy hA
  obtain ⟨ps, ms⟩ := r
  dsimp only at *
  go_enter Try.func35, Try.ntmps35
  go_wp2_with fail
  go_loopg [4, 5] ps.length (fun c v i wr => ∃ k : Nat, k + c = ps.length ∧ i = .int .i64 k ∧ DropR w ps a.data.toList k v wr)
  case atStart => exact ⟨0, by omega, rfl, HSTART.out⟩
  case round =>
    clear HSTART
    obtain ⟨k, hk, rfl, hR⟩ := hrel
    have hkl : k ≤ ps.length := by omega
    have HK := Lib.hid hk
    have HR := Lib.hid hR
    have hyr : YAt wr y (.slice A ps.length c) vm := HY.out.keep (hR.2.block y hylt)
    have d0 := hyr.c0
    have HYR := Lib.hid hyr
    clear hk hR hyr
    by_cases hlt : k < ps.length
    · have hki : (k : Int) < (ps.length : Int) := by omega
      obtain ⟨g, rfl, hPL⟩ := HA.out (by omega)
      have hPLr : PLat wr g ps := hPL.turn (F := fun i => ¬ i < w.heap.size) ⟨HR.out.2.os, HR.out.2.tape, HR.out.2.output, HR.out.2.size, fun i hi _ => HR.out.2.block i hi⟩ (fun hn => hn hPL.lt)
      have d1 := hPLr.snd k hlt
      have HRA := Lib.hid (hPLr.range hlt)
      have HNX := Lib.hid (fun v' w' o h1 h2 h3 => HR.out.keep (v' := v') (w' := w') (o := o) hlt h1 h2 h3)
      have HSK := Lib.hid (HR.out.skip hlt)
      have b1 := toB_eqB ps[k].2 a
      have HB1 : Hid (keepP a.data.toList ps[k] = !(ps[k].2 == a.data.toList)) := Lib.hid rfl
      have hp1 := fun W => pl_one W (toB ps[k].1) (toB ps[k].2)
      simp only [toB_data] at hp1
      have HP1 := Lib.hid hp1
      clear hPL hPLr hp1
      generalize ps[k] = u at *
      obtain ⟨u1, u2⟩ := u
      dsimp only at *
      generalize (toB u1) = t1 at *
      generalize (toB u2) = t2 at *
      cases e2 : (u2 == a.data.toList) with
      | false =>
        rw [e2] at b1
        have HKP : Hid (keepP a.data.toList (u1, u2) = true) := Lib.hid (by rw [HB1.out, e2]; rfl)
        have hfl := filter_len ps a.data.toList k
        have HFL : Hid (((ps.take k).filter (keepP a.data.toList)).length + [(u1, u2)].length ≤ 1000000) := Lib.hid (by simp only [List.length_singleton]; omega)
        clear hfl e2
        go_wp2_with (first | ((with_reducible refine at_load70 _ rfl ?_); refine wpList_load_mid rfl 70 _ rfl g (k * 2) rfl _ _ HRA.out Try.underlying70 rfl info70s ?_) | (at_builtin; refine wpList_append_pairs _ rfl (.tmp 25) (.tmp 33) rfl w.heap.size _ _ _ [(u1, u2)] rfl rfl (HR.out.1.below (boxed_below _ _)) (HP1.out _) HFL.out (by have := HR.out.2.size; simp; omega) ?_; intro v4 w4 hown4 hg4; have HN := Lib.hid (HNX.out v4 w4 _ HKP.out hown4 hg4); clear hown4 hg4))
        have hk1 := HK.out
        go_roundg (gk - 1)
        case measure => omega
        case rel => exact ⟨k + 1, by omega, by go_num, HN.out⟩
      | true =>
        rw [e2] at b1
        have HN := Lib.hid (HSK.out (by rw [HB1.out, e2]; rfl))
        clear e2
        go_wp2_with fail
        have hk1 := HK.out
        go_roundg (gk - 1)
        case measure => omega
        case rel => exact ⟨k + 1, by omega, by go_num, HN.out⟩
    · have hki : decide ((k : Int) < (ps.length : Int)) = false := by simp; omega
      have hki2 : decide (k < ps.length) = false := by simp; omega
      have hke : k = ps.length := by omega
      have hown := HR.out.1
      rw [hke, List.take_length] at hown
      have q0 := HYR.out.c0
      have f0 := HYR.out.fr 0
      obtain ⟨A4, n4, c4, rfl⟩ := ownP_form hown
      have hne : ∀ g, (Value.slice A4 n4 c4).ownBlock = some g → w.heap.size ≤ g := fun g hg => hown.base_le hg
      have hfin : RDone w y (.slice A ps.length c) vm (RS.drop ⟨ps, ms⟩ a.data.toList) (.returned (.tuple #[])) (wr.setCell ⟨y, 0, none⟩ (.slice A4 n4 c4)) := by
        have hpl2 : PL wr (.slice A4 n4 c4) (ps.filter (keepP a.data.toList)) := hown.pl (Nat.le_trans (List.length_filter_le _ _) hpl)
        have ht : Turn (fun _ => False) w wr := Turn.of_below HR.out.2
        refine ⟨rfl, _, vm, ⟨HYR.out.set0 _, hpl2.turn (turn_set _ y 0 _) (fun g hg e => by have := hne g hg; omega), (HH.out.m.turn ht (fun _ _ h => h)).turn (turn_set _ y 0 _) (fun g hg => HH.out.my g hg), fun g hg => by have := hne g hg; omega, HH.out.my⟩, ?_, .inr hne, .inl rfl⟩
        exact (ht.mono (fun _ h => h.elim)).trans (turn_set _ _ _ _)
      have HFIN := Lib.hid hfin
      clear hfin hne hown hke
      go_wp2_with fail
      go_end0
      exact HFIN.out

end Go.Proofs.Ytkbjfmlfmmmknaa
