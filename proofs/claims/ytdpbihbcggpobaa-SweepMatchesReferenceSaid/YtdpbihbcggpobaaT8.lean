/- The walk of the library's DeleteFunc at items. -/
import Derived.Test.YtdpbihbcggpobaaT7
namespace Go.Proofs.Ytdpbihbcggpobaa
open Go.RowKit

theorem keeps_iff (a b : It) : keeps a b = true ↔ decide (b.xh < a.xl) = false := by unfold keeps; simp
theorem keeps_off (a b : It) : keeps a b = false ↔ decide (b.xh < a.xl) = true := by unfold keeps; simp
theorem filter_all {a : It} {l : List It} (h : ∀ b ∈ l, decide (b.xh < a.xl) = false) : l.filter (keeps a) = l := List.filter_eq_self.2 fun b hb => (keeps_iff a b).2 (h b hb)

theorem DelR.start {w w' : World} {g : Nat} {act : List It} {a : It} {rest : List Value} {k : Nat} (hg : w.grownBy w' (some g)) (hr : RowIs w' g act rest) (hk : k < act.length) (hd : decide (act[k].xh < a.xl) = true) (hq : ∀ j (hj : j < k), decide (act[j].xh < a.xl) = false) :
    DelR w g act a rest (k + 1) (act.take k) act w' := by
  have hl : (act.take k).length = k := by rw [List.length_take]; omega
  refine ⟨?_, by rw [hl]; omega, rfl, by rw [hl], rfl, hr, hg⟩
  rw [filt_step hk, if_neg (by rw [(keeps_off a _).2 hd]; simp), List.append_nil, filter_all]
  intro b hb
  obtain ⟨j, hj, e⟩ := List.getElem_of_mem hb
  rw [List.getElem_take] at e
  rw [← e]
  exact hq j (by omega)

def CutFact (g n cap m : Nat) : Prop :=
  (∀ W, (Instr.slice 44 (.slice (some ⟨g, 0, none⟩) n cap) (some (.int .i64 m)) none none).run Try.prog W = .ok (.slice (some ⟨g, m * 9, none⟩) (n - m) (cap - m)) W) ∧
  (∀ W, (Instr.slice 44 (.slice (some ⟨g, 0, none⟩) n cap) none (some (.int .i64 m)) none).run Try.prog W = .ok (.slice (some ⟨g, 0, none⟩) m cap) W)
theorem cut_fact {g n cap m : Nat} (h : m < n) (h2 : n ≤ cap) : CutFact g n cap m := by
  refine ⟨fun W => ?_, fun W => ?_⟩
  · rw [run_slice_l (P := Try.prog) W 44 _ n cap elem44 .i64 m (by omega) (by omega), size44]
    have : cap ≠ m := by omega
    simp [Result.andThen, sliced, Addr.add, this]
    intro e; exact e.symm
  · rw [run_slice_h (P := Try.prog) W 44 _ n cap elem44 .i64 m (by omega) (by omega), size44]
    simp [Result.andThen, sliced, Addr.add]

theorem hv_below {w w' : World} {base e size : Nat} {v : Value} {n : Nat} {xs : List Value} (h : w.ownsRow base e size v n xs) (hb : Below w.heap.size w w') : w'.ownsRow base e size v n xs := by
  refine ⟨h.1, ?_⟩
  rcases h.2 with h | ⟨g, cap, cur, h1, h2, h3, h4⟩
  · exact .inl h
  · exact .inr ⟨g, cap, cur, h1, h2, by rw [hb.block g (Array.getElem?_eq_some_iff.1 h3).1]; exact h3, h4⟩

theorem hDD_there {w wr : World} {g : Nat} {act : List It} {a : It} {rest : List Value} {jn : Nat} {K L : List It} (h : DelR w g act a rest jn K L wr) (hk : K.length < L.length) : wr.there g (K.length * 9) 9 ∧ g < wr.heap.size := by
  refine ⟨h.row.there hk, ?_⟩
  have hr := h.row
  unfold RowIs Blk at hr
  exact (Array.getElem?_eq_some_iff.1 hr).1
theorem there_below {w w' : World} {g o n : Nat} (h : w.there g o n ∧ g < w.heap.size) (hb : Below w.heap.size w w') : w'.there g o n := fun j hj =>
  ⟨by rw [hb.cell (p := ⟨g, o + j, none⟩) h.2]; exact (h.1 j hj).1, by rw [hb.frozen (p := ⟨g, o + j, none⟩) h.2]; exact (h.1 j hj).2⟩
theorem new_range (w w2 : World) (cs : List Value) (t : TypeId) (hb : Below (w.alloc (.cells cs.toArray t)).heap.size (w.alloc (.cells cs.toArray t)) w2) : w2.rangeAt w.heap.size 0 cs := by
  intro j v hj
  have h1 : Blk (w.alloc (.cells cs.toArray t)) w.heap.size cs t := blk_new w cs t
  have h2 : Blk w2 w.heap.size cs t := Blk.below h1 hb
  rw [Nat.zero_add]
  exact Blk.c h2 j hj

theorem it_one (b : It) : (itCells b).toArray.all (·.oneCell') = true := by
  unfold itCells
  simp [Value.oneCell']

set_option maxHeartbeats 8000000 in
theorem delete_any (a : It) (A base : Nat) (v : Value) (act : List It) (w : World) (hv : w.ownsRow base 49 9 v act.length (act.flatMap itCells)) (hc : w.cell? ⟨A, 5, none⟩ = some (.int .i64 a.xl)) (hA : A < w.heap.size) (hAb : v.ownBlock ≠ some A) (hn : act.length ≤ 1000000) :
    Calls Try.prog 23 #[v, .func (.func 24) #[] #[.pointer (some ⟨A, 0, none⟩)]] w (DelPost w base v (act.filter (keeps a))) := by
  have hv0 := hv
  rcases hv.2 with ⟨h1, h2⟩ | ⟨g, cap, cur, h1, _, _, _, _, _, _⟩
  · subst h1
    obtain rfl : act = [] := List.eq_nil_of_length_eq_zero h2
    have hp := idx_zero none 0 A a.xl w
    have HV := Lib.hid hv0
    clear hv hv0 hc h2 hn
    go_enter Try.func23, Try.ntmps23
    go_wp2_with (first | (go_at_call 36; refine hp.mono ?_; rintro en w' ⟨r, rfl, hb, hr⟩; have hr1 : r = -1 := (hr.elim (fun h => h.1) fun h => by obtain ⟨k, hk, _⟩ := h; exact absurd hk (by simp)); subst hr1; have HB := Lib.hid hb; clear hb hr))
    go_ret
    exact ⟨.slice none 0 0, rfl, ⟨rfl, .inl ⟨rfl, rfl⟩⟩, below_grown HB.out _, rfl⟩
  · subst h1
    obtain ⟨rest, hrow, hbase, hcap, hmx, hrl⟩ := own_row hv0
    have hgA : g ≠ A := fun e => hAb (by rw [e]; rfl)
    have hp : Calls Try.prog 36 #[.slice (some ⟨g, 0, none⟩) act.length cap, .func (.func 24) #[] #[.pointer (some ⟨A, 0, none⟩)]] w (IdxPost w act a.xl) := idx_some g cap A a.xl w act rest hrow hc hA hn
    have hgs : g < w.heap.size := by
      unfold RowIs Blk at hrow
      exact (Array.getElem?_eq_some_iff.1 hrow).1
    have hp2 : Calls Try.prog 36 #[.slice (some ⟨g, 0, none⟩) act.length cap, .func (.func 24) #[] #[.pointer (some ⟨A, 0, none⟩)]] w (fun e w' => Below w.heap.size w w' ∧ ∃ r : Int, e = .returned (.int .i64 r) ∧ ((r = -1 ∧ act.filter (keeps a) = act) ∨ ∃ k : Nat, ∃ hk : k < act.length, r = k ∧ DelR w g act a rest (k + 1) (act.take k) act w')) := by
      refine hp.mono ?_
      rintro en w' ⟨r, rfl, hb, hr⟩
      refine ⟨hb, r, rfl, ?_⟩
      rcases hr with ⟨rfl, hq⟩ | ⟨k, hk, rfl, hd, hq⟩
      · exact .inl ⟨rfl, filter_all hq⟩
      · exact .inr ⟨k, hk, rfl, DelR.start (below_grown hb _) (hrow.below hb) hk hd hq⟩
    have HV := Lib.hid (And.intro hv0 (And.intro hbase (And.intro hcap (And.intro hmx hrl))))
    have HC := Lib.hid (And.intro hc (And.intro hA (And.intro hgA hgs)))
    have HN := Lib.hid hn
    clear hv hv0 hc hn hrow hp hcap hmx hrl hbase hA hgA hAb hgs
    go_enter Try.func23, Try.ntmps23
    go_upto_region 2 with (first | (go_at_call 36; refine hp2.mono ?_; rintro en w' ⟨hb, r, rfl, hr⟩; have HB := Lib.hid hb; clear hb))
    rcases hr with ⟨rfl, hf⟩ | ⟨k, hk, rfl, hD⟩
    · have HF := Lib.hid hf
      clear hf hp2
      go_wp2_with fail
      go_ret
      have hk2 := below_grown HB.out (some g)
      refine ⟨.slice (some ⟨g, 0, none⟩) act.length cap, rfl, ?_, hk2, rfl⟩
      rw [HF.out]
      exact hv_below HV.out.1 HB.out
    · have HD := Lib.hid hD
      have HK : Hid ((act.take k).length = k) := Lib.hid (by rw [List.length_take]; omega)
      clear hD hp2
      have hki : decide ((k : Int) = -1) = false := by simp
      have hki2 : ((k : Int) == -1) = false := by simp
      go_wp2_with fail
      go_loopg [5, 6] (act.length - (k + 1)) (fun c' i j wr => ∃ jn : Nat, ∃ K L : List It, jn + c' = act.length ∧ i = .int .i64 K.length ∧ j = .int .i64 jn ∧ DelR w g act a rest jn K L wr)
      case atStart =>
        have hn := HN.out
        exact ⟨k + 1, act.take k, act, by omega, by rw [HK.out], by congr 1; unfold wrap64; omega, HD.out⟩
      case round =>
        obtain ⟨jn, K, L, hj, rfl, rfl, hD⟩ := hrel
        have hLl := hD.len
        by_cases hlt : jn < act.length
        · have hki : decide ((jn : Int) < (act.length : Int)) = true := by simp; omega
          have hL : jn < L.length := by omega
          have hLj : L[jn] = act[jn] := (drop_get hD.dr hL hlt).1
          have hra := hD.row.range hL
          rw [hLj] at hra
          have hgr := hD.gr
          have hcw : wr.cell? ⟨A, 5, none⟩ = some (.int .i64 a.xl) := by
            rw [← HC.out.1]; exact World.cell?_of_block (w := w) (hgr.block A HC.out.2.1 (fun e => HC.out.2.2.1 (Option.some.inj e).symm))
          have hAw : A < wr.heap.size := Nat.lt_of_lt_of_le HC.out.2.1 hgr.size
          have HRA := Lib.hid hra
          have HW := Lib.hid (And.intro hcw hAw)
          have HJ := Lib.hid hj
          have HDD := Lib.hid hD
          clear hra hcw hAw hgr hj hLj hD
          have HKL : Hid (K.length < L.length) := Lib.hid (by have := HDD.out.lt; omega)
          have HP := Lib.hid (fun (w1 : World) (hb : Below wr.heap.size wr w1) => pred_any act[jn] A a.xl w1 ((hb.cell (p := ⟨A, 5, none⟩) HW.out.2).trans HW.out.1) (Nat.lt_of_lt_of_le HW.out.2 hb.size))
          cases hd : decide (act[jn].xh < a.xl) with
          | true =>
            have HX := Lib.hid (fun (w3 : World) (hb : Below wr.heap.size wr w3) => HDD.out.del hlt ((keeps_off a _).2 hd) hb)
            rw [hd] at HP
            clear hd
            unfold BoolB it at HP
            generalize act[jn] = b at *
            unfold itCells at HP HRA
            go_wp2_with (first | ((with_reducible refine at_load49 _ rfl ?_); refine wpList_load_mid rfl 49 _ rfl g (jn * 9) rfl _ _ HRA.out Try.underlying49 rfl info49 ?_) | (go_at_call 24; refine (HP.out _ (below_new _ _)).mono ?_; rintro en w2 ⟨rfl, hb⟩; have HB2 := Lib.hid ((below_new wr _).trans (hb.mono (by simp))); clear hb))
            have hj1 := HJ.out
            have hn := HN.out
            go_roundg (gk - 1)
            case measure => omega
            case rel => exact ⟨jn + 1, K, L, by omega, rfl, by congr 1; unfold wrap64; omega, HX.out _ HB2.out⟩
          | false =>
            have HX := Lib.hid (fun (w3 : World) (hb : Below wr.heap.size wr w3) => HDD.out.keep hlt ((keeps_iff a _).2 hd) hb)
            have HT := Lib.hid (hDD_there HDD.out HKL.out)
            rw [hd] at HP
            clear hd
            unfold BoolB it at HP
            generalize act[jn] = b at *
            unfold itCells at HP HRA HX
            have hKL := HKL.out
            have hn := HN.out
            go_wp2_with (first | ((with_reducible refine at_load49 _ rfl ?_); refine wpList_load_mid rfl 49 _ rfl g (jn * 9) rfl _ _ HRA.out Try.underlying49 rfl info49 ?_) | (go_at_call 24; refine (HP.out _ (below_new _ _)).mono ?_; rintro en w2 ⟨rfl, hb⟩; have HB2 := Lib.hid ((below_new wr _).trans (hb.mono (by simp))); have HRB := Lib.hid (new_range wr w2 _ _ hb); clear hb) | ((with_reducible refine at_load49 _ rfl ?_); refine wpList_load_mid rfl 49 _ rfl wr.heap.size 0 rfl _ _ HRB.out Try.underlying49 rfl info49 ?_) | ((with_reducible refine at_store49 _ _ rfl ?_); refine wpList_store_mid rfl 49 _ _ rfl g (K.length * 9) _ rfl rfl (there_below HT.out HB2.out) info49 (it_one b) ?_))
            have hj1 := HJ.out
            go_roundg (gk - 1)
            case measure => omega
            case rel => exact ⟨jn + 1, K ++ [b], L.set K.length b, by omega, by rw [List.length_append, List.length_singleton]; congr 1, by congr 1, HX.out _ HB2.out⟩
        · have hki : decide ((jn : Int) < (act.length : Int)) = false := by simp; omega
          obtain rfl : jn = act.length := by have := hD.lt; omega
          obtain ⟨hc1, hc2⟩ := cut_fact (g := g) hD.lt HV.out.2.2.1
          have hd1 := hD.done HV.out.2.1 HV.out.2.2.1 HV.out.2.2.2.1 HV.out.2.2.2.2
          have hclr := fun (ty : Nat) => run_clear_items wr ty g (K.length * 9) (act.length - K.length) (cap - K.length) (by have := hD.lt; omega) hD.tail
          have hKe : K = act.filter (keeps a) := by rw [hD.k, List.take_length]
          generalize List.replicate ((act.length - K.length) * 9) (Value.int .i64 0) = zs at *
          have hfin : DelPost w base (.slice (some ⟨g, 0, none⟩) act.length cap) (act.filter (keeps a)) (.returned (.slice (some ⟨g, 0, none⟩) K.length cap)) (wr.setCells g (K.length * 9) zs) := by
            rw [← hKe]
            exact ⟨_, rfl, hd1.1, hd1.2, rfl⟩
          have HF := Lib.hid hfin
          clear hfin hd1 hD hKe
          generalize wr.setCells g (K.length * 9) zs = we at *
          go_wp2_with fail
          go_ret
          exact HF.out

end Go.Proofs.Ytdpbihbcggpobaa
