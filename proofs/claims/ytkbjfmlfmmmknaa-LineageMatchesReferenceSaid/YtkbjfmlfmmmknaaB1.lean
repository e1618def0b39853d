/- The walk of LineageMatchesReference. -/
import Derived.Test.YtkbjfmlfmmmknaaE1
import Derived.Deep.RegionHeld3
namespace Go.Proofs.Ytkbjfmlfmmmknaa
open Go.RowKit Go.Maps Go.WideMaps Go.ChangeMaps Go.Sort

def MatchR (w : World) (x y : Nat) (k : Nat) (wr : World) : Prop :=
  ∃ st r, EnvR w wr (4 * k) x st y r [] ∧ Sim st r ∧ Inv st ∧ RBound r k

theorem Eds.cells_at' {w : World} {vm : Value} {ms : List EdC} (h : Eds w vm ms) {k : Nat} (hk : k < ms.length) : ∃ B o c, vm = .slice (some ⟨B, o, none⟩) ms.length c ∧ B < w.heap.size ∧ ∀ w', Below w.heap.size w w' → w'.rangeAt B (o + k * 15) ms[k].cells := by
  obtain ⟨_, A, c, rfl, _, _, h3⟩ := h
  obtain ⟨B, o, rfl, hB, hE⟩ := h3 (by omega)
  exact ⟨B, o, c, rfl, hB, fun w' hb => rangeAt_turn (hE k _ (List.getElem?_eq_getElem hk)) (hb.block B hB)⟩

theorem EnvR.rfollow_is {w0 w : World} {n x y : Nat} {st : St} {r : RS} {held : List (Value × List ByteArray)} (h : EnvR w0 w n x st y r held) (hl1 : r.ps.length ≤ 400000) (hl2 : r.ms.length ≤ 400000) (e : EdC) (c : Int) (r' : RS) (hc : r.err e.ed = c) (hr : r.step e.ed = r') :
    Calls Try.prog 15 #[.pointer (some ⟨y, 0, none⟩), e.val] w (RFol w0 n x st y r' held c) := by
  rw [← hc, ← hr]; exact h.rfollow hl1 hl2 e
theorem EnvR.follow_is {w0 w : World} {n x y : Nat} {st : St} {r : RS} {held : List (Value × List ByteArray)} (h : EnvR w0 w n x st y r held) (hn : n < 1000000) (e : EdC) (he : e.ok) (c : Int) (st' : St) (hc : err st e.ed = c) (hs : step st e.ed = st') :
    Calls Try.prog 14 #[.pointer (some ⟨x, 0, none⟩), e.val] w (RFol w0 (n + 4) x st' y r held c) := by
  rw [← hc, ← hs]; exact h.follow hn e he
theorem cells2_alloc {w : World} {B m : Nat} {a b : ByteArray} (o : Obj) (hB : B < w.heap.size) (h : w.cell? ⟨B, m + 1, none⟩ = some (.string a) ∧ w.cell? ⟨B, m + 2, none⟩ = some (.string b)) :
    (w.alloc o).cell? ⟨B, m + 1, none⟩ = some (.string a) ∧ (w.alloc o).cell? ⟨B, m + 2, none⟩ = some (.string b) :=
  ⟨(World.cell?_alloc_lt w o ⟨B, m + 1, none⟩ hB).trans h.1, (World.cell?_alloc_lt w o ⟨B, m + 2, none⟩ hB).trans h.2⟩
theorem ids_cell {W : World} {gi : Nat} {a b c : ByteArray} (h : SL W (.slice (some ⟨gi, 0, none⟩) 3 3) [a, b, c]) {m : Nat} (hm : m < 3) : W.cell? ⟨gi, m, none⟩ = some (.string (at3 a b c m)) := by
  rcases h.2 with ⟨h1, _⟩ | ⟨g, cap, h1, hS⟩
  · cases h1
  · cases h1
    have : m = 0 ∨ m = 1 ∨ m = 2 := by omega
    rcases this with rfl | rfl | rfl
    · exact hS.cell 0 (by simp)
    · exact hS.cell 1 (by simp)
    · exact hS.cell 2 (by simp)
theorem cells15 {w' : World} {B m : Nat} {op : Int} {aid aother aobj : ByteArray} {c3 c4 c5 c6 c7 c8 c10 c11 c12 c13 c14 : Value}
    (h : w'.rangeAt B m [.int .i64 op, .string aid, .string aother, c3, c4, c5, c6, c7, c8, .string aobj, c10, c11, c12, c13, c14]) : w'.cell? ⟨B, m, none⟩ = some (.int .i64 op) ∧ w'.cell? ⟨B, m + 1, none⟩ = some (.string aid) ∧ w'.cell? ⟨B, m + 2, none⟩ = some (.string aother) ∧ w'.cell? ⟨B, m + 3, none⟩ = some (c3) ∧ w'.cell? ⟨B, m + 4, none⟩ = some (c4) ∧ w'.cell? ⟨B, m + 5, none⟩ = some (c5) ∧ w'.cell? ⟨B, m + 6, none⟩ = some (c6) ∧ w'.cell? ⟨B, m + 7, none⟩ = some (c7) ∧ w'.cell? ⟨B, m + 8, none⟩ = some (c8) ∧ w'.cell? ⟨B, m + 9, none⟩ = some (.string aobj) ∧ w'.cell? ⟨B, m + 10, none⟩ = some (c10) ∧ w'.cell? ⟨B, m + 11, none⟩ = some (c11) ∧ w'.cell? ⟨B, m + 12, none⟩ = some (c12) ∧ w'.cell? ⟨B, m + 13, none⟩ = some (c13) ∧ w'.cell? ⟨B, m + 14, none⟩ = some (c14) :=
  ⟨h 0 _ rfl, h 1 _ rfl, h 2 _ rfl, h 3 _ rfl, h 4 _ rfl, h 5 _ rfl, h 6 _ rfl, h 7 _ rfl, h 8 _ rfl, h 9 _ rfl, h 10 _ rfl, h 11 _ rfl, h 12 _ rfl, h 13 _ rfl, h 14 _ rfl⟩

set_option maxHeartbeats 16000000 in
set_option maxRecDepth 100000 in
theorem matches_walk (w : World) (v : Value) (es : List EdC) (id : ByteArray) (h : Eds w v es) (hid : id.size ≤ maxLen) :
    Calls Try.prog 3 #[v, .string id] w (HeadPost w) := by
  have hhead := head_any w
  have H := Lib.hid h
  obtain ⟨z0, A, C, rfl, z1⟩ := h
  clear z0 z1
  go_enter Try.func3, Try.ntmps3
  go_wp2_with fail
  refine hhead.mono ?_
  rintro en w1 ⟨rfl, hb1⟩
  clear hhead
  go_wp2_with fail
  refine (few_any w1 _ es 40 (H.out.turn hb1) (by omega)).mono ?_
  rintro en w2 ⟨bf, rfl, hfew, rfl⟩
  have HEND : Hid (HeadPost w (.returned (.bool true)) w1) := Lib.hid ⟨rfl, hb1⟩
  have HB1 := Lib.hid hb1
  clear hb1
  have HI := Lib.hid hid
  unfold maxLen at hid
  cases bf with
  | false =>
    clear hfew
    go_wp2_with fail
    go_ret
    exact HEND.out
  | true =>
    have hlen := hfew rfl
    clear hfew
    by_cases t0 : 100 < id.size
    · have b0 : decide (100 < id.size) = true := by simp; omega
      have b0' : decide ((100 : Int) < (id.size : Int)) = true := by simp; omega
      go_wp2_with fail
      go_ret
      exact HEND.out
    have b0 : decide (100 < id.size) = false := by simp; omega
    have b0' : decide ((100 : Int) < (id.size : Int)) = false := by simp; omega
    go_wp2_with fail
    clear b0 b0' t0 hid
    refine (new_any w1).mono ?_
    rintro en w2 ⟨x, F, rfl, hL, hB2, hF⟩
    have HB2 := Lib.hid (HB1.out.trans (hB2.mono HB1.out.size))
    have HL := Lib.hid hL
    have HF : Hid (∀ i, F i → w.heap.size ≤ i) := Lib.hid (fun i hi => Nat.le_trans HB1.out.size (hF i hi))
    clear hL hB2 hF
    go_wp2_with fail
    refine (rnew_any w2).mono ?_
    intro en w3 hy
    obtain ⟨y, rfl, hE⟩ := env_start w w2 HB2.out x F HL.out HF.out hy
    have HSTART : Hid (MatchR w x y 0 w3) := Lib.hid ⟨_, _, hE, sim_start, inv_start, Nat.le_refl _, Nat.le_refl _⟩
    clear hy hE HB2 HL HF
    go_wp2_with fail
    go_loopg [8] es.length (fun c i wr => ∃ k : Nat, k + c = es.length ∧ i = .int .i64 k ∧ MatchR w x y k wr)
    case atStart => exact ⟨0, by omega, rfl, HSTART.out⟩
    case round =>
      clear HSTART
      obtain ⟨k, hk, rfl, hR⟩ := hrel
      have hkl : k ≤ es.length := by omega
      have HK := Lib.hid hk
      clear hk
      obtain ⟨st, r, hE, hS, hI, hBd⟩ := hR
      have HS := Lib.hid hS
      have HIN := Lib.hid hI
      have HBD := Lib.hid hBd
      have HE := Lib.hid hE
      clear hS hI hBd hE
      by_cases hlt : k < es.length
      · obtain ⟨B, o, c', hBo, hBl, hra⟩ := H.out.cells_at' hlt
        obtain ⟨rfl, rfl⟩ : A = some ⟨B, o, none⟩ ∧ C = c' := by simpa using hBo
        clear hBo
        have HRA := Lib.hid hra
        have heok : es[k].ok := H.out.1 _ (List.getElem_mem hlt)
        have HEOK := Lib.hid heok
        clear hra heok
        have hki : (k : Int) < (es.length : Int) := by omega
        generalize es[k] = e at *
        obtain ⟨op, aid, aother, aobj, c3, c4, c5, c6, c7, c8, c10, c11, c12, c13, c14⟩ := e
        have HR0 := Lib.hid (HRA.out _ HE.out.old)
        have HR0d := Lib.hid (HRA.out _ (HE.out.below (below_drewN wr 1)).old)
        have HS2 := Lib.hid (HS.out.step (EdC.ed ⟨op, aid, aother, aobj, c3, c4, c5, c6, c7, c8, c10, c11, c12, c13, c14⟩))
        have HIN2 := Lib.hid (HIN.out.step (EdC.ed ⟨op, aid, aother, aobj, c3, c4, c5, c6, c7, c8, c10, c11, c12, c13, c14⟩))
        have HBD2 := Lib.hid (HBD.out.step (by omega) (EdC.ed ⟨op, aid, aother, aobj, c3, c4, c5, c6, c7, c8, c10, c11, c12, c13, c14⟩))
        obtain ⟨cc, hcc⟩ : ∃ c, err st (EdC.ed ⟨op, aid, aother, aobj, c3, c4, c5, c6, c7, c8, c10, c11, c12, c13, c14⟩) = c := ⟨_, rfl⟩
        obtain ⟨st2, hst⟩ : ∃ s, step st (EdC.ed ⟨op, aid, aother, aobj, c3, c4, c5, c6, c7, c8, c10, c11, c12, c13, c14⟩) = s := ⟨_, rfl⟩
        obtain ⟨r2, hr2⟩ : ∃ s, r.step (EdC.ed ⟨op, aid, aother, aobj, c3, c4, c5, c6, c7, c8, c10, c11, c12, c13, c14⟩) = s := ⟨_, rfl⟩
        have HCC := Lib.hid hcc
        have HCC2 := Lib.hid (HS.out.errB.trans hcc)
        have HST := Lib.hid hst
        have HR2 := Lib.hid hr2
        rw [hst, hr2] at HS2
        rw [hst] at HIN2
        rw [hr2] at HBD2
        clear hcc hst hr2
        go_upto_region 9 with fail
        go_region_held3 (fun w' => w'.cell? ⟨B, o + k * 15, none⟩ = some (.int .i64 op) ∧ w'.cell? ⟨B, o + k * 15 + 1, none⟩ = some (.string aid) ∧ w'.cell? ⟨B, o + k * 15 + 2, none⟩ = some (.string aother) ∧ w'.cell? ⟨B, o + k * 15 + 3, none⟩ = some (c3) ∧ w'.cell? ⟨B, o + k * 15 + 4, none⟩ = some (c4) ∧ w'.cell? ⟨B, o + k * 15 + 5, none⟩ = some (c5) ∧ w'.cell? ⟨B, o + k * 15 + 6, none⟩ = some (c6) ∧ w'.cell? ⟨B, o + k * 15 + 7, none⟩ = some (c7) ∧ w'.cell? ⟨B, o + k * 15 + 8, none⟩ = some (c8) ∧ w'.cell? ⟨B, o + k * 15 + 9, none⟩ = some (.string aobj) ∧ w'.cell? ⟨B, o + k * 15 + 10, none⟩ = some (c10) ∧ w'.cell? ⟨B, o + k * 15 + 11, none⟩ = some (c11) ∧ w'.cell? ⟨B, o + k * 15 + 12, none⟩ = some (c12) ∧ w'.cell? ⟨B, o + k * 15 + 13, none⟩ = some (c13) ∧ w'.cell? ⟨B, o + k * 15 + 14, none⟩ = some (c14)) (first | assumption | exact cells15 HR0.out | exact cells15 HR0d.out | exact cells15 HR5.out | exact cells15 HR6.out) (first | (go_at_call 14; refine (EnvR.follow_is (by first | exact HE.out | exact HE.out.below (below_drewN wr 1)) (by omega) ⟨op, aid, aother, aobj, c3, c4, c5, c6, c7, c8, c10, c11, c12, c13, c14⟩ HEOK.out cc st2 HCC.out HST.out).mono ?_; rintro en w5 ⟨rfl, hE5⟩; have HR5 := Lib.hid (HRA.out _ hE5.old); have HE5 := Lib.hid hE5; clear hE5) | (go_at_call 15; refine (HE5.out.rfollow_is (by have := HBD.out.1; omega) (by have := HBD.out.2; omega) ⟨op, aid, aother, aobj, c3, c4, c5, c6, c7, c8, c10, c11, c12, c13, c14⟩ cc r2 HCC2.out HR2.out).mono ?_; rintro en w6 ⟨rfl, hE6⟩; have HR6 := Lib.hid (HRA.out _ hE6.old); have HE6 := Lib.hid hE6; clear hE6))
        clear HR0 HR0d
        go_upto_region 11 with fail
        have hi1 : w6.cell? ⟨B, o + k * 15 + 1, none⟩ = some (.string aid) := HR6.out 1 _ rfl
        have hi2 : w6.cell? ⟨B, o + k * 15 + 2, none⟩ = some (.string aother) := HR6.out 2 _ rfl
        have HC6 := Lib.hid (And.intro hi1 hi2)
        have HBL : Hid (B < w6.heap.size) := Lib.hid (Nat.lt_of_lt_of_le hBl HE6.out.old.size)
        clear hi1 hi2
        go_region_held3 (fun w' => w'.cell? ⟨B, o + k * 15 + 1, none⟩ = some (.string aid) ∧ w'.cell? ⟨B, o + k * 15 + 2, none⟩ = some (.string aother)) (first | exact HC6.out | exact cells2_alloc _ HBL.out HC6.out) (fail)
        clear HC6 HBL
        have hI7 : SL ((w6.alloc (.cells #[.string id, .string aid, .string aother] 9)).drew) (.slice (some ⟨w6.heap.size, 0, none⟩) 3 3) [id, aid, aother] := (show SL (w6.alloc (.cells #[.string id, .string aid, .string aother] 9)) (.slice (some ⟨w6.heap.size, 0, none⟩) 3 3) [id, aid, aother] from SL_lit w6 [id, aid, aother] (by simp)).turn (Turn.drew (fun _ => False) _) (fun _ _ h => h)
        have hE7 := HE6.out.hold (w' := (w6.alloc (.cells #[.string id, .string aid, .string aother] 9)).drew) ((boxed_below w6 _).trans ⟨rfl, rfl, rfl, Nat.le_refl _, fun _ _ => rfl⟩) hI7 (fun g hg => by
          have : w6.heap.size = g := by simpa [Value.ownBlock] using hg
          omega)
        have hok : ∀ m, m < 3 → (at3 id aid aother m).size ≤ maxLen := fun m hm => by
          have := HEOK.out
          have h1 : aid.size ≤ maxLen := this.id
          have h2 : aother.size ≤ maxLen := this.other
          have : m = 0 ∨ m = 1 ∨ m = 2 := by omega
          rcases this with rfl | rfl | rfl
          · exact HI.out
          · exact h1
          · exact h2
        have HOK3 := Lib.hid hok
        clear hI7 hok
        generalize (w6.alloc (.cells #[.string id, .string aid, .string aother] 9)).drew = w7 at *
        generalize w6.heap.size = gi at *
        have HE7 := Lib.hid hE7
        clear hE7 HE6 HE5 HR5 HR6
        go_wp2_with fail
        go_loopg [10] 3 (fun c i wr => ∃ m : Nat, m + c = 3 ∧ i = .int .i64 m ∧ EnvR w wr (4 * k + 4) x st2 y r2 [(.slice (some ⟨gi, 0, none⟩) 3 3, [id, aid, aother])])
        case atStart => exact ⟨0, by omega, rfl, HE7.out⟩
        case round =>
          clear HE7
          obtain ⟨m, hm, rfl, hE8⟩ := hrel
          have hm3 : m ≤ 3 := by omega
          have HM := Lib.hid hm
          clear hm
          by_cases hmt : m < 3
          · have hmi : (m : Int) < 3 := by omega
            have HCL := Lib.hid (fun W held (h : EnvR w W (4 * k + 4) x st2 y r2 held) (hp : (Value.slice (some ⟨gi, 0, none⟩) 3 3, [id, aid, aother]) ∈ held) => ids_cell (h.sl hp) hmt)
            have HSZ := Lib.hid (HOK3.out m hmt)
            generalize at3 id aid aother m = s at *
            have HE8 := Lib.hid hE8
            have HE8d := Lib.hid (hE8.below (below_drewN wr 1))
            have hc0 := HCL.out _ _ HE8.out (.head _)
            clear hE8
            go_upto_region 15 with fail
            go_region_held3 (fun w' => w'.cell? ⟨gi, m, none⟩ = some (.string s)) (first | exact hc0 | exact HCL.out _ _ HE8d.out (.head _) | exact HCL.out _ _ HEh.out (.tail _ (.tail _ (.tail _ (.tail _ (.head _))))) | exact HCL.out _ _ HEg.out (.tail _ (.tail _ (.tail _ (.tail _ (.head _))))) | exact HCL.out _ _ HEf.out (.tail _ (.tail _ (.tail _ (.tail _ (.head _))))) | exact HCL.out _ _ HEe.out (.tail _ (.tail _ (.tail _ (.tail _ (.head _))))) | exact HCL.out _ _ HEd.out (.tail _ (.tail _ (.tail _ (.head _)))) | exact HCL.out _ _ HEc.out (.tail _ (.tail _ (.head _))) | exact HCL.out _ _ HEb.out (.tail _ (.tail _ (.head _))) | exact HCL.out _ _ HEa.out (.tail _ (.head _)))
              (first
                | (go_at_call 17; refine (EnvR.now (by first | exact HE8.out | exact HE8d.out) HS2.out (by omega) s HSZ.out).mono ?_; rintro en wa ⟨v1, rfl, hEa⟩; have HEa := Lib.hid hEa; clear hEa)
                | (go_at_call 18; refine (HEa.out.rnow (by have := HBD2.out.1; omega) s).mono ?_; rintro en wb ⟨v2, rfl, hEb⟩; have HEb := Lib.hid hEb; clear hEb)
                | (go_at_call 16; refine (HEe.out.same (.tail _ (.head _)) (.head _)).mono ?_; rintro en wf ⟨rfl, hEf⟩; have HEf := Lib.hid hEf; clear hEf)
                | (go_at_call 16; refine (HEb.out.same (.tail _ (.head _)) (.head _)).mono ?_; rintro en wc ⟨rfl, hEc⟩; have HEc := Lib.hid hEc; clear hEc)
                | (go_at_call 19; refine (HEc.out.then_ HS2.out HIN2.out (by omega) s HSZ.out).mono ?_; rintro en wd ⟨v3, rfl, hEd⟩; have HEd := Lib.hid hEd; clear hEd)
                | (go_at_call 20; refine (HEd.out.rthen (by have := HBD2.out.1; omega) s).mono ?_; rintro en we ⟨v4, rfl, hEe⟩; have HEe := Lib.hid hEe; clear hEe)
                | (go_at_call 21; refine (HEf.out.gone HS2.out s HSZ.out).mono ?_; rintro en wg ⟨rfl, hEg⟩; have HEg := Lib.hid hEg; clear hEg)
                | (go_at_call 22; refine (HEg.out.rgone (by have := HBD2.out.1; omega) s).mono ?_; rintro en wh ⟨rfl, hEh⟩; have HEh := Lib.hid hEh; clear hEh))
            have HN := Lib.hid (HEh.out.less (held' := [(.slice (some ⟨gi, 0, none⟩) 3 3, [id, aid, aother])]) (fun p hp => by rw [List.mem_singleton.1 hp]; exact .tail _ (.tail _ (.tail _ (.tail _ (.head _))))))
            clear hc0 HE8 HE8d HCL HEa HEb HEc HEd HEe HEf HEg HEh
            go_wp2_with fail
            have hm1 := HM.out
            go_roundg (2 - m)
            case measure => omega
            case rel => exact ⟨m + 1, by omega, by go_num, HN.out⟩
          · have hmi : decide ((m : Int) < 3) = false := by simp; omega
            have hmi2 : decide (m < 3) = false := by simp; omega
            have HN : Hid (MatchR w x y (k + 1) wr) := Lib.hid ⟨st2, r2, (hE8.less (fun p hp => by cases hp)).mono (by omega), HS2.out, HIN2.out, HBD2.out⟩
            clear hE8
            go_wp2_with fail
            have hk1 := HK.out
            go_roundg (es.length - k - 1)
            case measure => omega
            case rel => exact ⟨k + 1, by omega, by go_num, HN.out⟩
      · have hki : decide ((k : Int) < (es.length : Int)) = false := by simp; omega
        have hki2 : decide (k < es.length) = false := by simp; omega
        have HFIN : Hid (HeadPost w (.returned (.bool true)) wr) := Lib.hid ⟨rfl, HE.out.old⟩
        go_wp2_with fail
        go_ret
        exact HFIN.out

end Go.Proofs.Ytkbjfmlfmmmknaa
