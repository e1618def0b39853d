/- The walk of LineageGoesOn. -/
import Derived.Test.YtkbjfmlfmmmknaaL7
namespace Go.Proofs.Ytkbjfmlfmmmknaa
open Go.RowKit Go.Maps Go.WideMaps Go.ChangeMaps Go.Sort

/-- Between two rounds of the further edits. -/
def MoreR (w : World) (x y n k : Nat) (held : List (Value × List ByteArray)) (s0 : St) (L : List Key) (wr : World) : Prop :=
  ∃ s t, Env2 w wr (n + 8 * k) x s y t held ∧ Onto s0 s t ∧ ∀ j p, ofS t j p = true → p = j ∨ p ∈ L

/-- Between two rounds of the gathering: what is gathered lies in a row of its own. -/
def GathR (w5 : World) (t : St) (ps : List Key) (k : Nat) (v : Value) (wr : World) : Prop :=
  ∃ acc : List Key, OwnS wr w5.heap.size v acc ∧ Below w5.heap.size w5 wr ∧ acc.length ≤ 100 * k ∧ ∀ q, q ∈ acc ↔ ∃ p ∈ ps.take k, ofS t p q = true

theorem GathR.next {w5 wr w6 w7 : World} {t : St} {ps acc ks : List Key} {k : Nat} {v v' : Value} (hk : k < ps.length) (hb : Below w5.heap.size w5 wr) (hl : acc.length ≤ 100 * k) (hm : ∀ q, q ∈ acc ↔ ∃ p ∈ ps.take k, ofS t p q = true)
    (hown : OwnS wr w5.heap.size v acc) (hb6 : Below wr.heap.size wr w6) (hkl : ks.length ≤ 100) (hkm : ∀ q, q ∈ ks ↔ ofS t ps[k] q = true) (h7 : OwnS w7 w5.heap.size v' (acc ++ ks)) (hg : w6.grownBy w7 v.ownBlock) : GathR w5 t ps (k + 1) v' w7 := by
  refine ⟨acc ++ ks, h7, (hb.trans (hb6.mono hb.size)).grown hg (Nat.le_trans hb.size hb6.size) (fun g hg' => hown.base_le hg'), by rw [List.length_append]; omega, fun q => ?_⟩
  rw [List.mem_append, hm, hkm, List.take_add_one, List.getElem?_eq_getElem hk]
  simp only [List.mem_append, Option.toList, List.mem_singleton]
  constructor
  · rintro (⟨p, hp, h⟩ | h)
    · exact ⟨p, .inl hp, h⟩
    · exact ⟨_, .inr rfl, h⟩
  · rintro ⟨p, hp | rfl, h⟩
    · exact .inl ⟨p, hp, h⟩
    · exact .inr h

theorem idsOf_mem {es : List EdC} {e : EdC} (he : e ∈ es) : e.id.data.toList ∈ idsOf es ∧ e.other.data.toList ∈ idsOf es := by
  unfold idsOf
  exact ⟨List.mem_flatMap.2 ⟨e, he, by simp⟩, List.mem_flatMap.2 ⟨e, he, by simp⟩⟩
theorem ids_more {t : St} {ms : List EdC} {e : EdC} (he : e ∈ ms) (h : ∀ j p, ofS t j p = true → p = j ∨ p ∈ idsOf ms) (j p : Key) (hp : ofS (step t e.ed) j p = true) : p = j ∨ p ∈ idsOf ms := by
  rcases ids_step e.ed h j p hp with h1 | h1 | h1 | h1
  · exact .inl h1
  · exact .inr h1
  · exact .inr (h1 ▸ (idsOf_mem he).1)
  · exact .inr (h1 ▸ (idsOf_mem he).2)

/-- The cell of an edit in a slice that came in. -/
theorem Eds.cells_at {w : World} {vm : Value} {ms : List EdC} (h : Eds w vm ms) {k : Nat} (hk : k < ms.length) : ∃ B o c, vm = .slice (some ⟨B, o, none⟩) ms.length c ∧ ∀ w', Below w.heap.size w w' → w'.rangeAt B (o + k * 15) ms[k].cells := by
  obtain ⟨hok, A, c, rfl, h1, h2, h3⟩ := h
  obtain ⟨B, o, rfl, hB, hE⟩ := h3 (by omega)
  exact ⟨B, o, c, rfl, fun w' hb => rangeAt_turn (hE k _ (List.getElem?_eq_getElem hk)) (hb.block B hB)⟩
theorem Eds.shape {w : World} {vm : Value} {ms : List EdC} (h : Eds w vm ms) : ∃ A c, vm = .slice A ms.length c := by
  obtain ⟨hok, A, c, rfl, _⟩ := h
  exact ⟨A, c, rfl⟩

set_option maxHeartbeats 8000000 in
set_option maxRecDepth 100000 in
theorem goesOn_walk (w : World) (vl : Value) (es : List EdC) (vm : Value) (ms : List EdC) (id : ByteArray) (h : Eds w vl es) (hm : Eds w vm ms) (hid : id.size ≤ maxLen) :
    Calls Try.prog 5 #[vl, vm, .string id] w (HeadPost w) := by
  have hhead := head_any w
  have H := Lib.hid h
  obtain ⟨AM, CM, rfl⟩ := hm.shape
  have HMS := Lib.hid hm
  clear h hm
  go_enter Try.func5, Try.ntmps5
  go_wp2_with fail
  refine hhead.mono ?_
  rintro en w1 ⟨rfl, hb1⟩
  clear hhead
  go_wp2_with fail
  refine (few_any w1 vl es 30 (H.out.turn hb1) (by omega)).mono ?_
  rintro en w2 ⟨bf, rfl, hfew, rfl⟩
  have HEND : Hid (HeadPost w (.returned (.bool true)) w1) := Lib.hid ⟨rfl, hb1⟩
  have HB1 := Lib.hid hb1
  clear hb1
  have HI := Lib.hid hid
  unfold maxLen at hid
  cases bf with
  | false =>
    clear hfew
    go_wp2_with fail
    go_ret
    exact HEND.out
  | true =>
    have hlen := hfew rfl
    clear hfew
    go_wp2_with fail
    refine (few_any w1 _ ms 30 (HMS.out.turn HB1.out) (by omega)).mono ?_
    rintro en w2 ⟨bf, rfl, hfew, rfl⟩
    cases bf with
    | false =>
      clear hfew
      go_wp2_with fail
      go_ret
      exact HEND.out
    | true =>
      have hlenm := hfew rfl
      clear hfew
      by_cases t0 : 100 < id.size
      · have b0 : decide (100 < id.size) = true := by simp; omega
        have b0' : decide ((100 : Int) < (id.size : Int)) = true := by simp; omega
        go_wp2_with fail
        go_ret
        exact HEND.out
      have b0 : decide (100 < id.size) = false := by simp; omega
      have b0' : decide ((100 : Int) < (id.size : Int)) = false := by simp; omega
      go_wp2_with fail
      clear b0 b0'
      refine (start_followed w w1 HB1.out vl es H.out (by omega)).mono ?_
      rintro en w2 ⟨x, rfl, hE⟩
      have hsz : ∀ k, ofS (runS (fun _ => none) es) id.data.toList k = true → k.length ≤ maxLen := fun k hk => parts_size H.out.1 (by simpa using HI.out) hk
      have hfewp : ∀ ks : List Key, ks.Pairwise (· < ·) → (∀ k ∈ ks, ofS (runS (fun _ => none) es) id.data.toList k = true) → ks.length ≤ 2 * es.length + 1 := fun ks hp hm => parts_few hp hm
      generalize runS (fun _ => none) es = s0 at *
      clear hid t0
      go_wp2_with fail
      refine hE.second_new.mono ?_
      rintro en w3 ⟨y, rfl, hE⟩
      go_wp2_with fail
      refine (hE.now (by omega) id HI.out).mono ?_
      rintro en w4 ⟨v1, ps, rfl, hE, hp, hm⟩
      have hlp : ps.length ≤ 61 := by have := hfewp ps hp (fun k hk => (hm k).1 hk); omega
      have HSZ : Hid (∀ k ∈ ps, k.length ≤ maxLen) := Lib.hid fun k hk => hsz k ((hm k).1 hk)
      have HM := Lib.hid hm
      clear hm hp hsz hfewp
      obtain ⟨AP, CP, rfl, z1, z2⟩ := hE.shape (.head _)
      clear z1 z2
      have hstart : MoreR w x y (4 * es.length) 0 [(.slice AP ps.length CP, ps.map toB)] s0 (idsOf ms) w4 := ⟨s0, _, hE, Onto.start s0, fun j p h => .inl (by simpa [ofS] using h)⟩
      have HSTART := Lib.hid hstart
      clear hstart hE
      go_wp2_with fail
      go_loopg [11] ms.length (fun c i wr => ∃ k : Nat, k + c = ms.length ∧ i = .int .i64 k ∧ MoreR w x y (4 * es.length) k [(.slice AP ps.length CP, ps.map toB)] s0 (idsOf ms) wr)
      case atStart => exact ⟨0, by omega, rfl, HSTART.out⟩
      case round =>
        clear HSTART
        obtain ⟨k, hk, rfl, hR⟩ := hrel
        have hkl : k ≤ ms.length := by omega
        have HK := Lib.hid hk
        clear hk
        obtain ⟨s, t, hE, hO, hL⟩ := hR
        have HO := Lib.hid hO
        have HL := Lib.hid hL
        clear hO hL
        by_cases hlt : k < ms.length
        · obtain ⟨B, o, c', hBo, hra⟩ := HMS.out.cells_at hlt
          obtain ⟨rfl, rfl⟩ : AM = some ⟨B, o, none⟩ ∧ CM = c' := by simpa using hBo
          clear hBo
          have HRA := Lib.hid (hra _ hE.old)
          have HRAW := Lib.hid hra
          have heok : ms[k].ok := HMS.out.1 _ (List.getElem_mem hlt)
          have hmem : ms[k] ∈ ms := List.getElem_mem hlt
          have HEOK := Lib.hid heok
          have HMEM := Lib.hid hmem
          clear hra heok hmem
          have hki : (k : Int) < (ms.length : Int) := by omega
          generalize ms[k] = e at *
          go_wp2_with ((with_reducible refine at_load38 _ rfl ?_); refine wpList_load_want rfl 38 _ rfl B (o + k * 15) rfl _ _ HRA.out Try.underlying38 rfl info38 ?_)
          refine (hE.follow (by omega) e HEOK.out).mono ?_
          rintro en w5 ⟨rfl, hE⟩
          have hO2 := HO.out
          have hL2 := HL.out
          clear HO HL
          by_cases he : err s e.ed = 0
          · have ht := hO2.ok he
            have hra2 : w5.rangeAt B (o + k * 15) e.cells := HRAW.out _ hE.old
            have HRA2 := Lib.hid hra2
            have HO3 := Lib.hid (hO2.step he)
            have HL3 : Hid (∀ j p, ofS (step t e.ed) j p = true → p = j ∨ p ∈ idsOf ms) := Lib.hid fun j p hp => ids_more HMEM.out hL2 j p hp
            have HT := Lib.hid ht
            clear hra2 hO2 hL2 ht
            rw [he]
            clear he
            go_wp2_with ((with_reducible refine at_load38 _ rfl ?_); refine wpList_load_want rfl 38 _ rfl B (o + k * 15) rfl _ _ HRA2.out Try.underlying38 rfl info38 ?_)
            refine (hE.swap.follow (by omega) e HEOK.out).mono ?_
            rintro en w6 ⟨rfl, hE⟩
            rw [HT.out]
            have hnext : MoreR w x y (4 * es.length) (k + 1) [(.slice AP ps.length CP, ps.map toB)] s0 (idsOf ms) w6 := ⟨_, _, hE.swap.mono (by omega), HO3.out, HL3.out⟩
            have HNEXT := Lib.hid hnext
            clear hnext hE
            go_wp2_with fail
            have hk1 := HK.out
            go_roundg (gk - 1)
            case measure => omega
            case rel => exact ⟨k + 1, by omega, by go_num, HNEXT.out⟩
          · rw [step_same he] at hE
            have hnext : MoreR w x y (4 * es.length) (k + 1) [(.slice AP ps.length CP, ps.map toB)] s0 (idsOf ms) w5 := ⟨_, _, hE.mono (by omega), hO2, hL2⟩
            have HNEXT := Lib.hid hnext
            clear hnext hE hO2 hL2
            generalize err s e.ed = c at *
            have hc2 : (c == 0) = false := beq_eq_false_iff_ne.2 he
            clear he
            go_wp2_with fail
            have hk1 := HK.out
            go_roundg (gk - 1)
            case measure => omega
            case rel => exact ⟨k + 1, by omega, by go_num, HNEXT.out⟩
        · have hke : k = ms.length := by omega
          have hki : decide ((k : Int) < (ms.length : Int)) = false := by simp; omega
          have hki2 : decide (k < ms.length) = false := by simp; omega
          have HKE := Lib.hid hke
          clear hke
          go_wp2_with fail
          clear hki hki2
          refine (hE.now (by omega) id HI.out).mono ?_
          rintro en w5 ⟨v2, ls, rfl, hE, hp2, hm2⟩
          have HM2 := Lib.hid hm2
          clear hm2 hp2
          obtain ⟨AN, CN, rfl, z1, z2⟩ := hE.shape (.head _)
          clear z1 z2
          have HE := Lib.hid hE
          clear hE
          have hgath : GathR w5 t ps 0 (.slice none 0 0) w5 := ⟨[], OwnS.nil _ _, Below.refl _ _, Nat.le_refl _, fun q => by simp⟩
          have HGATH := Lib.hid hgath
          clear hgath
          go_wp2_with fail
          go_loopg [13, 14] ps.length (fun c v i wr => ∃ k : Nat, k + c = ps.length ∧ i = .int .i64 k ∧ GathR w5 t ps k v wr)
          case atStart => exact ⟨0, by omega, rfl, HGATH.out⟩
          case round =>
            clear HGATH
            obtain ⟨q, hq, rfl, acc, hown, hb, hal, ham⟩ := hrel
            have HOWN := Lib.hid hown
            have HB := Lib.hid hb
            have HAM := Lib.hid ham
            have HQ := Lib.hid hq
            have hqp : q ≤ ps.length := by omega
            clear hown hb ham hq
            by_cases hqt : q < ps.length
            · have hE := HE.out.below HB.out
              obtain ⟨A', c', hAc, _, hA⟩ := hE.shape (.tail _ (.head _))
              obtain ⟨rfl, rfl⟩ : AP = A' ∧ CP = c' := by simpa using hAc
              obtain ⟨gb, rfl, hgb⟩ := hA (by omega)
              have hc1 : wr.cell? ⟨gb, q, none⟩ = some (.string (toB ps[q])) := hgb.at_ hqt
              have hki3 : (q : Int) < (ps.length : Int) := by omega
              obtain ⟨F, G, _, hLy, _⟩ := hE
              have hnow := now_any wr y _ G t (toB ps[q]) hLy (by omega) (by show (List.toArray ps[q]).size ≤ maxLen; rw [List.size_toArray]; exact HSZ.out _ (List.getElem_mem hqt))
              have HNOW := Lib.hid hnow
              clear hnow hLy hgb hA hAc
              go_wp2_with fail
              refine HNOW.out.mono ?_
              rintro en w6 ⟨v3, ks, rfl, hS, hp3, hm3, hb6, hg3⟩
              clear hg3 hc1 HNOW
              rw [toB_data] at hm3
              have hks : ks.length ≤ 61 := by
                have := rising_length (m := ps[q] :: idsOf ms) hp3 (fun z hz => List.mem_cons.2 (HL.out _ _ ((hm3 z).1 hz)))
                rw [List.length_cons, idsOf_length] at this
                omega
              have HS := Lib.hid hS
              have HM3 := Lib.hid hm3
              have HB6 := Lib.hid hb6
              have HOWN6 := Lib.hid (HOWN.out.below hb6)
              have HSIZE := Lib.hid (Nat.le_trans HB.out.size hb6.size)
              clear hS hm3 hb6 hp3
              go_wp2_with (at_builtin; refine wpList_append_words _ rfl _ _ rfl w5.heap.size _ _ acc ks rfl rfl HOWN6.out HS.out (by omega) HSIZE.out ?_; intro v' w7 h7 hg7; have HNX := Lib.hid (GathR.next hqt HB.out hal HAM.out HOWN.out HB6.out (by omega) HM3.out h7 hg7); clear h7 hg7)
              have hk1 := HQ.out
              go_roundg (gk - 1)
              case measure => omega
              case rel => exact ⟨q + 1, by omega, by go_num, HNX.out⟩
            · have hqe : q = ps.length := by omega
              have hki3 : decide ((q : Int) < (ps.length : Int)) = false := by simp; omega
              have hki4 : decide (q < ps.length) = false := by simp; omega
              have heq : ∀ z, z ∈ acc ↔ z ∈ ls := fun z => by
                rw [HAM.out, hqe, List.take_length]
                refine Iff.trans ?_ ((HO.out.both id.data.toList z).symm.trans (HM2.out z).symm)
                exact ⟨fun ⟨p, hp, h⟩ => ⟨p, (HM.out p).1 hp, h⟩, fun ⟨p, hp, h⟩ => ⟨p, (HM.out p).2 hp, h⟩⟩
              have HEQ := Lib.hid heq
              have hal2 : acc.length ≤ 6100 := by omega
              have hsl := HOWN.out.sl (by omega)
              have HE2 := Lib.hid (HE.out.below HB.out)
              obtain ⟨AA, CA, rfl, _, hAA⟩ := hsl.shape
              have HSL := Lib.hid hsl
              have HAA := Lib.hid hAA
              have HFIN : Hid (HeadPost w (.returned (.bool true)) wr) := Lib.hid ⟨rfl, HE2.out.old⟩
              clear heq hsl hAA hal hqe HE HOWN HAM HB HO HL HQ HK
              go_wp2_with fail
              clear hki3 hki4 hqt hqp
              go_loop [15] (fun i => ∃ k : Nat, k ≤ acc.length ∧ i = .int .i64 k) (fun i => acc.length - (intOf i).toNat)
              case atStart => exact ⟨0, Nat.zero_le _, rfl⟩
              case round =>
                obtain ⟨a, ha, rfl⟩ := hrel
                by_cases hat : a < acc.length
                · obtain ⟨gb, rfl, hgb⟩ := HAA.out (by omega)
                  have hc1 : wr.cell? ⟨gb, a, none⟩ = some (.string (toB acc[a])) := hgb.at_ hat
                  have hki3 : (a : Int) < (acc.length : Int) := by omega
                  clear hgb
                  go_wp2_with fail
                  refine (in_any wr _ _ (toB acc[a]) (HE2.out.sl (.head _))).mono ?_
                  rintro en w8 ⟨r, rfl, hr, rfl⟩
                  have : r = true := hr.2 (List.mem_map_of_mem ((HEQ.out _).1 (List.getElem_mem hat)))
                  subst this
                  clear hr hc1
                  go_wp2_with fail
                  go_round
                  case rel => exact ⟨a + 1, by omega, by go_num⟩
                  case measure => simp [intOf]; omega
                · have hki3 : decide ((a : Int) < (acc.length : Int)) = false := by simp; omega
                  have hki4 : decide (a < acc.length) = false := by simp; omega
                  go_wp2_with fail
                  clear hki3 hki4 hat ha
                  go_loop [16] (fun i => ∃ k : Nat, k ≤ ls.length ∧ i = .int .i64 k) (fun i => ls.length - (intOf i).toNat)
                  case atStart => exact ⟨0, Nat.zero_le _, rfl⟩
                  case round =>
                    obtain ⟨b, hb, rfl⟩ := hrel
                    by_cases hbt : b < ls.length
                    · obtain ⟨A', c', hAc, _, hA⟩ := HE2.out.shape (.head _)
                      obtain ⟨rfl, rfl⟩ : AN = A' ∧ CN = c' := by simpa using hAc
                      obtain ⟨gb, rfl, hgb⟩ := hA (by omega)
                      have hc1 : wr.cell? ⟨gb, b, none⟩ = some (.string (toB ls[b])) := hgb.at_ hbt
                      have hki3 : (b : Int) < (ls.length : Int) := by omega
                      clear hgb hA hAc
                      go_wp2_with fail
                      refine (in_any wr _ _ (toB ls[b]) HSL.out).mono ?_
                      rintro en w8 ⟨r, rfl, hr, rfl⟩
                      have : r = true := hr.2 (List.mem_map_of_mem ((HEQ.out _).2 (List.getElem_mem hbt)))
                      subst this
                      clear hr hc1
                      go_wp2_with fail
                      go_round
                      case rel => exact ⟨b + 1, by omega, by go_num⟩
                      case measure => simp [intOf]; omega
                    · have hki3 : decide ((b : Int) < (ls.length : Int)) = false := by simp; omega
                      have hki4 : decide (b < ls.length) = false := by simp; omega
                      go_wp2_with fail
                      go_ret
                      exact HFIN.out

end Go.Proofs.Ytkbjfmlfmmmknaa
