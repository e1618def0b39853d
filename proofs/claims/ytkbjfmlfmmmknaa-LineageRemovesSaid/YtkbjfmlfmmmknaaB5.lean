/- The walk of LineageRemoves. -/
import Derived.Test.YtkbjfmlfmmmknaaL6
namespace Go.Proofs.Ytkbjfmlfmmmknaa
open Go.RowKit Go.Maps Go.WideMaps Go.ChangeMaps Go.Sort

/-- Between the two halves, and between two rounds: the parts that are left; each is short. -/
def LeftR (w : World) (x n k : Nat) (v : Value) (ks : List Key) (id : Key) (wr : World) : Prop :=
  ∃ st, Env1 w wr (n + 4 * k) x st [(v, ks.map toB)] ∧ Inv st ∧ ∀ j, ofS st id j = true ↔ j ∈ ks.drop k

theorem removed_length {ks ls : List Key} {a : Key} (h1 : ks.Pairwise (· < ·)) (h2 : ls.Pairwise (· < ·)) (hm : ∀ k, k ∈ ls ↔ k ∈ ks ∧ k ≠ a) : ks.length = ls.length + if a ∈ ks then 1 else 0 := by
  by_cases ha : a ∈ ks
  · rw [if_pos ha]
    have i1 := rising_length (m := a :: ls) h1 (fun k hk => by
      by_cases e : k = a
      · rw [e]; exact List.mem_cons_self
      · exact List.mem_cons_of_mem _ ((hm k).2 ⟨hk, e⟩))
    have i2 := rising_length (m := ks.erase a) h2 (fun k hk => (List.mem_erase_of_ne ((hm k).1 hk).2).2 ((hm k).1 hk).1)
    rw [List.length_erase_of_mem ha] at i2
    have := List.length_pos_of_mem ha
    rw [List.length_cons] at i1
    omega
  · rw [if_neg ha]
    have i1 := rising_length (m := ls) h1 (fun k hk => (hm k).2 ⟨hk, fun e => ha (e ▸ hk)⟩)
    have i2 := rising_length (m := ks) h2 (fun k hk => ((hm k).1 hk).1)
    omega

theorem LeftR.next {ks : List Key} (hp : ks.Pairwise (· < ·)) {k : Nat} (hk : k < ks.length) (j : Key) : (j ∈ ks.drop k ∧ j ≠ ks[k]) ↔ j ∈ ks.drop (k + 1) := by
  have e := List.drop_eq_getElem_cons hk
  have hp' : (ks.drop k).Pairwise (· < ·) := hp.sublist (List.drop_sublist _ _)
  rw [e] at hp' ⊢
  obtain ⟨h1, _⟩ := List.pairwise_cons.1 hp'
  constructor
  · rintro ⟨h, hn⟩
    exact (List.mem_cons.1 h).resolve_left hn
  · intro h
    refine ⟨List.mem_cons_of_mem _ h, ?_⟩
    rintro rfl
    exact absurd (h1 _ h) (List.lt_irrefl _)

set_option maxHeartbeats 8000000 in
set_option maxRecDepth 100000 in
theorem removes_walk (w : World) (v : Value) (es : List EdC) (a id : ByteArray) (h : Eds w v es) (ha : a.size ≤ maxLen) (hid : id.size ≤ maxLen) :
    Calls Try.prog 7 #[v, .string a, .string id] w (HeadPost w) := by
  have hhead := head_any w
  have H := Lib.hid h
  clear h
  go_enter Try.func7, Try.ntmps7
  go_wp2_with fail
  refine hhead.mono ?_
  rintro en w1 ⟨rfl, hb1⟩
  clear hhead
  go_wp2_with fail
  refine (few_any w1 v es 40 (H.out.turn hb1) (by omega)).mono ?_
  rintro en w2 ⟨bf, rfl, hfew, rfl⟩
  have HEND : Hid (HeadPost w (.returned (.bool true)) w1) := Lib.hid ⟨rfl, hb1⟩
  have HB1 := Lib.hid hb1
  clear hb1
  have HA := Lib.hid ha
  have HI := Lib.hid hid
  unfold maxLen at ha hid
  cases bf with
  | false =>
    clear hfew
    go_wp2_with fail
    go_ret
    exact HEND.out
  | true =>
    have hlen := hfew rfl
    clear hfew
    by_cases t0 : 100 < a.size
    · have b0 : decide (100 < a.size) = true := by simp; omega
      have b0' : decide ((100 : Int) < (a.size : Int)) = true := by simp; omega
      go_wp2_with fail
      go_ret
      exact HEND.out
    by_cases t1 : 100 < id.size
    · have b0 : decide (100 < a.size) = false := by simp; omega
      have b0' : decide ((100 : Int) < (a.size : Int)) = false := by simp; omega
      have b1 : decide (100 < id.size) = true := by simp; omega
      have b1' : decide ((100 : Int) < (id.size : Int)) = true := by simp; omega
      go_wp2_with fail
      go_ret
      exact HEND.out
    have b0 : decide (100 < a.size) = false := by simp; omega
    have b0' : decide ((100 : Int) < (a.size : Int)) = false := by simp; omega
    have b1 : decide (100 < id.size) = false := by simp; omega
    have b1' : decide ((100 : Int) < (id.size : Int)) = false := by simp; omega
    go_wp2_with fail
    clear b0 b0' b1 b1'
    refine (start_followed w w1 HB1.out v es H.out (by omega)).mono ?_
    rintro en w2 ⟨x, rfl, hE⟩
    have HOK := Lib.hid H.out.1
    have hinv := inv_run es
    have hsz : ∀ k, ofS (runS (fun _ => none) es) id.data.toList k = true → k.length ≤ maxLen := fun k hk => parts_size HOK.out (by simpa using HI.out) hk
    have hfewp : ∀ ks : List Key, ks.Pairwise (· < ·) → (∀ k ∈ ks, ofS (runS (fun _ => none) es) id.data.toList k = true) → ks.length ≤ 2 * es.length + 1 := fun ks hp hm => parts_few hp hm
    generalize runS (fun _ => none) es = st at *
    have HINV := Lib.hid hinv
    clear hinv ha hid t0 t1
    go_wp2_with fail
    refine (hE.now (by omega) id HI.out).mono ?_
    rintro en w3 ⟨v1, ks, rfl, hE, hp, hm⟩
    have hlk : ks.length ≤ 81 := by have := hfewp ks hp (fun k hk => (hm k).1 hk); omega
    have HSZ : Hid (∀ k ∈ ks, k.length ≤ maxLen) := Lib.hid fun k hk => hsz k ((hm k).1 hk)
    have HM := Lib.hid hm
    have HP := Lib.hid hp
    obtain ⟨A1, c1, rfl, hn1, hA1⟩ := hE.shape (.head _)
    clear hm hp hsz hfewp hA1 hn1
    go_wp2_with fail
    refine (hE.drop _).mono ?_
    rintro en w4 ⟨rfl, hE⟩
    go_wp2_with fail
    have hlaw : err st (edE 5 a ⟨#[]⟩ ⟨#[]⟩).ed = 0 → ∀ j k, ofS (step st (edE 5 a ⟨#[]⟩ ⟨#[]⟩).ed) j k = (ofS st j k && !(k == a.data.toList)) := fun he j k => drop_law (a := a.data.toList) (x := []) (y := []) he j k
    have hsame : err st (edE 5 a ⟨#[]⟩ ⟨#[]⟩).ed ≠ 0 → step st (edE 5 a ⟨#[]⟩ ⟨#[]⟩).ed = st := fun he => step_same he
    refine (hE.follow_at (by omega) _ (edE_ok HA.out (Nat.zero_le _)) _ _ rfl rfl).mono ?_
    rintro en w5 ⟨rfl, hE⟩
    have hinv2 := HINV.out.step (edE 5 a ⟨#[]⟩ ⟨#[]⟩).ed
    generalize step st (edE 5 a ⟨#[]⟩ ⟨#[]⟩).ed = st' at *
    generalize err st (edE 5 a ⟨#[]⟩ ⟨#[]⟩).ed = c at *
    have HLAW := Lib.hid hlaw
    have HINV2 := Lib.hid hinv2
    have HSAME := Lib.hid hsame
    have HLK := Lib.hid hlk
    have HE := Lib.hid hE
    clear hlaw hinv2 hsame hE
    go_upto_if 37 with fail
    go_cut [9] (fun s9 wx => ∃ (A : Option Addr) (c : Nat) (ls : List Key), s9 = .slice A ls.length c ∧ LeftR w x (4 * es.length + 4) 0 s9 ls id.data.toList wx ∧ ls.Pairwise (· < ·) ∧ ls.length ≤ 81 ∧ ∀ k ∈ ls, k.length ≤ maxLen)
    case first =>
      by_cases hc : c = 0
      · have hlaw := HLAW.out hc
        have hE := HE.out
        clear HE HSAME HLAW
        have hc1 : (c == 0) = true := by rw [hc]; rfl
        clear hc
        have HLAW := Lib.hid hlaw
        clear hlaw
        go_wp2_with fail
        refine (hE.now (by omega) id HI.out).mono ?_
        rintro en w6 ⟨v2, ls, rfl, hE, hp2, hm2⟩
        have hmm : ∀ k, k ∈ ls ↔ k ∈ ks ∧ k ≠ a.data.toList := fun k => (hm2 k).trans (by
          show ofS st' id.data.toList k = true ↔ _
          rw [HLAW.out, HM.out k]; simp)
        have hleng := removed_length HP.out hp2 hmm
        have HP2 := Lib.hid hp2
        have HM2 := Lib.hid hm2
        have HMM := Lib.hid hmm
        have HLENG := Lib.hid hleng
        have hls : ls.length ≤ 81 := by have := rising_length (m := ks) hp2 (fun k hk => ((hmm k).1 hk).1); omega
        obtain ⟨A2, c2, rfl, hn2, hA2⟩ := hE.shape (.head _)
        clear hp2 hm2 hmm hleng hA2 hn2
        go_wp2_with fail
        refine (hE.in_ (.tail _ (.head _)) a).mono ?_
        rintro en w7 ⟨r, rfl, hr, hE⟩
        rw [mem_toB] at hr
        have HR := Lib.hid hr
        clear hr
        cases r with
        | true =>
          have hleng := HLENG.out
          rw [if_pos (HR.out.1 rfl)] at hleng
          have hN : ((ls.length : Int) != (ks.length : Int) - 1) = false := by simp; omega
          have hpos : 0 < ks.length := by omega
          clear hleng HR HLENG
          go_wp2_with fail
          refine (hE.then_at (by omega) a HA.out [] List.Pairwise.nil (fun k => by rw [HLAW.out]; simp)).mono ?_
          rintro en w8 ⟨v3, rfl, hE⟩
          obtain ⟨A3, c3, hv3, z1, z2⟩ := hE.shape (ks := []) (.head _)
          clear z1 z2
          rw [List.length_nil] at hv3
          subst hv3
          go_wp2_with fail
          refine (hE.gone a HA.out).mono ?_
          rintro en w9 ⟨g, rfl, hg9, hE⟩
          clear hg9
          cases g with
          | true =>
            go_wp2_with fail
            refine (hE.in_ (.tail _ (.head _)) a).mono ?_
            rintro en w10 ⟨r2, rfl, hr2, hE⟩
            have : r2 = false := by
              cases r2 with
              | false => rfl
              | true => exact absurd rfl (((HMM.out _).1 (mem_toB.1 (hr2.1 rfl))).2)
            subst this
            clear hr2
            have hfin : LeftR w x (4 * es.length + 4) 0 (.slice A2 ls.length c2) ls id.data.toList w10 := ⟨st', by simpa using hE.less (by intro p hp; rw [List.mem_singleton.1 hp]; exact .tail _ (.head _)), HINV2.out, fun j => (HM2.out j).symm⟩
            have HFIN := Lib.hid hfin
            clear hfin hE
            go_wp2_with fail
            go_meet
            exact ⟨A2, c2, ls, rfl, HFIN.out, HP2.out, hls, fun k hk => HSZ.out k ((HMM.out k).1 hk).1⟩
          | false =>
            go_wp2_with fail
            refine (hE.now (by omega) a HA.out).mono ?_
            rintro en w10 ⟨v4, ms, rfl, hE, _, hm4⟩
            go_wp2_with fail
            refine (hE.in_ (.head _) a).mono ?_
            rintro en w11 ⟨r1, rfl, hr1, hE⟩
            have : r1 = false := by
              cases r1 with
              | false => rfl
              | true =>
                have := (hm4 _).1 (mem_toB.1 (hr1.1 rfl))
                rw [HLAW.out] at this
                simp at this
            subst this
            clear hr1 hm4
            go_wp2_with fail
            refine (hE.in_ (.tail _ (.tail _ (.head _))) a).mono ?_
            rintro en w12 ⟨r2, rfl, hr2, hE⟩
            have : r2 = false := by
              cases r2 with
              | false => rfl
              | true => exact absurd rfl (((HMM.out _).1 (mem_toB.1 (hr2.1 rfl))).2)
            subst this
            clear hr2
            have hfin : LeftR w x (4 * es.length + 4) 0 (.slice A2 ls.length c2) ls id.data.toList w12 := ⟨st', by simpa using hE.less (by intro p hp; rw [List.mem_singleton.1 hp]; exact .tail _ (.tail _ (.head _))), HINV2.out, fun j => (HM2.out j).symm⟩
            have HFIN := Lib.hid hfin
            clear hfin hE
            go_wp2_with fail
            go_meet
            exact ⟨A2, c2, ls, rfl, HFIN.out, HP2.out, hls, fun k hk => HSZ.out k ((HMM.out k).1 hk).1⟩
        | false =>
          have hleng := HLENG.out
          rw [if_neg (fun h => by have := HR.out.2 h; cases this)] at hleng
          have hN : ((ls.length : Int) != (ks.length : Int)) = false := by simp; omega
          clear hleng HR HLENG
          go_wp2_with fail
          refine (hE.then_at (by omega) a HA.out [] List.Pairwise.nil (fun k => by rw [HLAW.out]; simp)).mono ?_
          rintro en w8 ⟨v3, rfl, hE⟩
          obtain ⟨A3, c3, hv3, z1, z2⟩ := hE.shape (ks := []) (.head _)
          clear z1 z2
          rw [List.length_nil] at hv3
          subst hv3
          go_wp2_with fail
          refine (hE.gone a HA.out).mono ?_
          rintro en w9 ⟨g, rfl, hg9, hE⟩
          clear hg9
          cases g with
          | true =>
            go_wp2_with fail
            refine (hE.in_ (.tail _ (.head _)) a).mono ?_
            rintro en w10 ⟨r2, rfl, hr2, hE⟩
            have : r2 = false := by
              cases r2 with
              | false => rfl
              | true => exact absurd rfl (((HMM.out _).1 (mem_toB.1 (hr2.1 rfl))).2)
            subst this
            clear hr2
            have hfin : LeftR w x (4 * es.length + 4) 0 (.slice A2 ls.length c2) ls id.data.toList w10 := ⟨st', by simpa using hE.less (by intro p hp; rw [List.mem_singleton.1 hp]; exact .tail _ (.head _)), HINV2.out, fun j => (HM2.out j).symm⟩
            have HFIN := Lib.hid hfin
            clear hfin hE
            go_wp2_with fail
            go_meet
            exact ⟨A2, c2, ls, rfl, HFIN.out, HP2.out, hls, fun k hk => HSZ.out k ((HMM.out k).1 hk).1⟩
          | false =>
            go_wp2_with fail
            refine (hE.now (by omega) a HA.out).mono ?_
            rintro en w10 ⟨v4, ms, rfl, hE, _, hm4⟩
            go_wp2_with fail
            refine (hE.in_ (.head _) a).mono ?_
            rintro en w11 ⟨r1, rfl, hr1, hE⟩
            have : r1 = false := by
              cases r1 with
              | false => rfl
              | true =>
                have := (hm4 _).1 (mem_toB.1 (hr1.1 rfl))
                rw [HLAW.out] at this
                simp at this
            subst this
            clear hr1 hm4
            go_wp2_with fail
            refine (hE.in_ (.tail _ (.tail _ (.head _))) a).mono ?_
            rintro en w12 ⟨r2, rfl, hr2, hE⟩
            have : r2 = false := by
              cases r2 with
              | false => rfl
              | true => exact absurd rfl (((HMM.out _).1 (mem_toB.1 (hr2.1 rfl))).2)
            subst this
            clear hr2
            have hfin : LeftR w x (4 * es.length + 4) 0 (.slice A2 ls.length c2) ls id.data.toList w12 := ⟨st', by simpa using hE.less (by intro p hp; rw [List.mem_singleton.1 hp]; exact .tail _ (.tail _ (.head _))), HINV2.out, fun j => (HM2.out j).symm⟩
            have HFIN := Lib.hid hfin
            clear hfin hE
            go_wp2_with fail
            go_meet
            exact ⟨A2, c2, ls, rfl, HFIN.out, HP2.out, hls, fun k hk => HSZ.out k ((HMM.out k).1 hk).1⟩
      · have h0 : (c == 0) = false := beq_eq_false_iff_ne.2 hc
        have hs := HSAME.out hc
        subst hs
        have hfin : LeftR w x (4 * es.length + 4) 0 (.slice A1 ks.length c1) ks id.data.toList w5 := ⟨_, by simpa using HE.out, HINV.out, fun j => (HM.out j).symm⟩
        have HFIN := Lib.hid hfin
        clear hfin
        go_wp2_with fail
        go_meet
        exact ⟨A1, c1, ks, rfl, HFIN.out, HP.out, HLK.out, HSZ.out⟩
    case rest =>
      obtain ⟨A, cc, ls, rfl, hL, hp, hl, hsz⟩ := hcut
      have HL := Lib.hid hL
      have HP := Lib.hid hp
      have HSZ := Lib.hid hsz
      clear hL hp hsz
      go_wp2_with fail
      go_loopg [12] ls.length (fun c i wr => ∃ k : Nat, k + c = ls.length ∧ i = .int .i64 k ∧ LeftR w x (4 * es.length + 4) k (.slice A ls.length cc) ls id.data.toList wr)
      case atStart => exact ⟨0, by omega, rfl, HL.out⟩
      case round =>
        clear HL
        obtain ⟨k, hk, rfl, hR⟩ := hrel
        have hkl : k ≤ ls.length := by omega
        have HK := Lib.hid hk
        clear hk
        have HR := Lib.hid hR
        clear hR
        by_cases hlt : k < ls.length
        · obtain ⟨s2, hE, hinv2, hm2⟩ := HR.out
          have HINV2 := Lib.hid hinv2
          have HM2 := Lib.hid hm2
          clear hinv2 hm2 HR
          have hkey : ofS s2 id.data.toList ls[k] = true := (HM2.out _).2 (by rw [List.drop_eq_getElem_cons hlt]; exact List.mem_cons_self)
          have HKEY := Lib.hid hkey
          clear hkey
          have hki : (k : Int) < (ls.length : Int) := by omega
          go_wp2_with fail
          refine (hE.gone id HI.out).mono ?_
          rintro en w6 ⟨g, rfl, hg, hE⟩
          have : g = false := by
            cases g with
            | false => rfl
            | true => have := (hg.1 rfl) ls[k]; rw [HKEY.out] at this; cases this
          subst this
          clear hg
          obtain ⟨A', c', hAc, _, hA⟩ := hE.shape (.head _)
          obtain ⟨rfl, rfl⟩ : A = A' ∧ cc = c' := by simpa using hAc
          obtain ⟨gb, rfl, hgb⟩ := hA (by omega)
          have hc1 : w6.cell? ⟨gb, k, none⟩ = some (.string (toB ls[k])) := hgb.at_ hlt
          clear hgb hA hAc
          go_wp2_with fail
          refine (hE.drop _).mono ?_
          rintro en w7 ⟨rfl, hE⟩
          go_wp2_with fail
          have herr : err s2 (edE 5 (toB ls[k]) ⟨#[]⟩ ⟨#[]⟩).ed = 0 := drop_ok (a := (toB ls[k]).data.toList) (x := []) (y := []) (by rw [toB_data]; exact HINV2.out.self _ _ HKEY.out)
          have hlaw : ∀ j q, ofS (step s2 (edE 5 (toB ls[k]) ⟨#[]⟩ ⟨#[]⟩).ed) j q = (ofS s2 j q && !(q == (toB ls[k]).data.toList)) := fun j q => drop_law (a := (toB ls[k]).data.toList) (x := []) (y := []) herr j q
          refine (hE.follow_at (by omega) _ (edE_ok (by show (List.toArray ls[k]).size ≤ maxLen; rw [List.size_toArray]; exact HSZ.out _ (List.getElem_mem hlt)) (Nat.zero_le _)) 0 _ herr rfl).mono ?_
          rintro en w8 ⟨rfl, hE⟩
          have hnext : LeftR w x (4 * es.length + 4) (k + 1) (.slice (some ⟨gb, 0, none⟩) ls.length cc) ls id.data.toList w8 := ⟨_, hE, HINV2.out.step _, fun j => by
            rw [hlaw, toB_data, Bool.and_eq_true, HM2.out j, ← LeftR.next HP.out hlt j]; simp⟩
          have HNEXT := Lib.hid hnext
          clear hnext hE herr hlaw
          go_wp2_with fail
          have hk1 := HK.out
          go_roundg (gk - 1)
          case measure => omega
          case rel => exact ⟨k + 1, by omega, by go_num, HNEXT.out⟩
        · have hke : k = ls.length := by omega
          obtain ⟨s2, hE, hinv2, hm2⟩ := HR.out
          have hgone : ∀ q, ofS s2 id.data.toList q = false := fun q => by
            cases hq : ofS s2 id.data.toList q with
            | false => rfl
            | true => have := (hm2 q).1 hq; rw [hke, List.drop_length] at this; cases this
          have HG := Lib.hid hgone
          clear hgone hinv2 hm2 HR hke
          have hki : decide ((k : Int) < (ls.length : Int)) = false := by simp; omega
          have hki2 : decide (k < ls.length) = false := by simp; omega
          go_wp2_with fail
          clear hki hki2
          refine (hE.gone_at id HI.out HG.out).mono ?_
          rintro en w6 ⟨rfl, hE⟩
          have HFIN : Hid (HeadPost w (.returned (.bool true)) w6) := Lib.hid ⟨rfl, hE.old⟩
          clear hE
          go_wp2_with fail
          go_ret
          exact HFIN.out

end Go.Proofs.Ytkbjfmlfmmmknaa
