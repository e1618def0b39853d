/- The reference's Follow, at every edit. -/
import Derived.Test.YtkbjfmlfmmmknaaM7
namespace Go.Proofs.Ytkbjfmlfmmmknaa
open Go.RowKit Go.Maps Go.WideMaps Go.ChangeMaps Go.Sort

/-- Follow. -/
theorem rfollow_any (w : World) (y : Nat) (vp vm : Value) (r : RS) (h : RLin w y vp vm r) (hl1 : r.ps.length ≤ 400000) (hl2 : r.ms.length ≤ 400000) (e : EdC) :
    Calls Try.prog 15 #[.pointer (some ⟨y, 0, none⟩), e.val] w (RFollowPost w y vp vm (r.err e.ed) (r.step e.ed)) := by
  obtain ⟨op, aid, aother, aobj, c3, c4, c5, c6, c7, c8, c10, c11, c12, c13, c14⟩ := e
  unfold EdC.val EdC.cells EdC.ed
  dsimp only
  have key : ∀ c r', r.err ⟨op, aid.data.toList, aother.data.toList, aobj.data.toList⟩ = c → r.step ⟨op, aid.data.toList, aother.data.toList, aobj.data.toList⟩ = r' →
      Calls Try.prog 15 #[.pointer (some ⟨y, 0, none⟩), .agg #[.int .i64 op, .string aid, .string aother, c3, c4, c5, c6, c7, c8, .string aobj, c10, c11, c12, c13, c14]] w (RFollowPost w y vp vm c r') →
      Calls Try.prog 15 #[.pointer (some ⟨y, 0, none⟩), .agg #[.int .i64 op, .string aid, .string aother, c3, c4, c5, c6, c7, c8, .string aobj, c10, c11, c12, c13, c14]] w (RFollowPost w y vp vm (r.err ⟨op, aid.data.toList, aother.data.toList, aobj.data.toList⟩) (r.step ⟨op, aid.data.toList, aother.data.toList, aobj.data.toList⟩)) := fun c r' h1 h2 k => by rw [h1, h2]; exact k
  have bad : ∀ c, c ≠ 0 → r.err ⟨op, aid.data.toList, aother.data.toList, aobj.data.toList⟩ = c → r.step ⟨op, aid.data.toList, aother.data.toList, aobj.data.toList⟩ = r := fun c h0 hc => by unfold RS.step; rw [hc, if_pos h0]
  have err1 : ((op < 1 ∨ 7 < op) ∨ ((op = 6 ∨ op = 7) ∧ aid = aother)) → r.err ⟨op, aid.data.toList, aother.data.toList, aobj.data.toList⟩ = 1 := fun hh => by
    unfold RS.err
    rw [if_pos]
    rcases hh with h | ⟨h, rfl⟩
    · exact .inl h
    · refine .inr ⟨?_, rfl⟩
      unfold Ed.two
      rcases h with rfl | rfl <;> rfl
  by_cases hlo : op < 1
  · exact key 1 r (err1 (.inl (.inl hlo))) (bad 1 (by decide) (err1 (.inl (.inl hlo)))) (rfollow_low w y vp vm r h hl1 hl2 op aid aother aobj c3 c4 c5 c6 c7 c8 c10 c11 c12 c13 c14 hlo)
  by_cases hhi : 7 < op
  · exact key 1 r (err1 (.inl (.inr hhi))) (bad 1 (by decide) (err1 (.inl (.inr hhi)))) (rfollow_high w y vp vm r h hl1 hl2 op aid aother aobj c3 c4 c5 c6 c7 c8 c10 c11 c12 c13 c14 hhi)
  have hops : op = 1 ∨ op = 2 ∨ op = 3 ∨ op = 4 ∨ op = 5 ∨ op = 6 ∨ op = 7 := by omega
  clear hlo hhi
  have hnk : aid ≠ aother → aid.data.toList ≠ aother.data.toList := fun h e => h (str_eq e)
  rcases hops with rfl | rfl | rfl | rfl | rfl | rfl | rfl
  · by_cases hk : aobj.data.toList ∈ r.ms
    · have he : r.err ⟨1, aid.data.toList, aother.data.toList, aobj.data.toList⟩ = 9 := by unfold RS.err Ed.two; simp [hk]
      exact key 9 r he (bad 9 (by decide) he) (rfollow_twice1 w y vp vm r h hl1 hl2 aid aother aobj c3 c4 c5 c6 c7 c8 c10 c11 c12 c13 c14 hk)
    · have he : r.err ⟨1, aid.data.toList, aother.data.toList, aobj.data.toList⟩ = 0 := by unfold RS.err Ed.two; simp [hk]
      exact key 0 _ he (by unfold RS.step; rw [he]; simp) (rfollow_ok1 w y vp vm r h hl1 hl2 aid aother aobj c3 c4 c5 c6 c7 c8 c10 c11 c12 c13 c14 hk)
  · cases hp : r.pair aid.data.toList aid.data.toList with
    | false =>
      have he : r.err ⟨2, aid.data.toList, aother.data.toList, aobj.data.toList⟩ = 11 := by unfold RS.err Ed.two; simp [hp]
      exact key 11 r he (bad 11 (by decide) he) (rfollow_none2 w y vp vm r h hl1 hl2 aid aother aobj c3 c4 c5 c6 c7 c8 c10 c11 c12 c13 c14 hp)
    | true =>
      have he : r.err ⟨2, aid.data.toList, aother.data.toList, aobj.data.toList⟩ = 0 := by unfold RS.err Ed.two; simp [hp]
      exact key 0 _ he (by unfold RS.step RS.said Ed.two; rw [he]; simp) (rfollow_ok2 w y vp vm r h hl1 hl2 aid aother aobj c3 c4 c5 c6 c7 c8 c10 c11 c12 c13 c14 hp)
  · cases hp : r.pair aid.data.toList aid.data.toList with
    | false =>
      have he : r.err ⟨3, aid.data.toList, aother.data.toList, aobj.data.toList⟩ = 11 := by unfold RS.err Ed.two; simp [hp]
      exact key 11 r he (bad 11 (by decide) he) (rfollow_none3 w y vp vm r h hl1 hl2 aid aother aobj c3 c4 c5 c6 c7 c8 c10 c11 c12 c13 c14 hp)
    | true =>
      have he : r.err ⟨3, aid.data.toList, aother.data.toList, aobj.data.toList⟩ = 0 := by unfold RS.err Ed.two; simp [hp]
      exact key 0 _ he (by unfold RS.step RS.said Ed.two; rw [he]; simp) (rfollow_ok3 w y vp vm r h hl1 hl2 aid aother aobj c3 c4 c5 c6 c7 c8 c10 c11 c12 c13 c14 hp)
  · cases hp : r.pair aid.data.toList aid.data.toList with
    | false =>
      have he : r.err ⟨4, aid.data.toList, aother.data.toList, aobj.data.toList⟩ = 11 := by unfold RS.err Ed.two; simp [hp]
      exact key 11 r he (bad 11 (by decide) he) (rfollow_none4 w y vp vm r h hl1 hl2 aid aother aobj c3 c4 c5 c6 c7 c8 c10 c11 c12 c13 c14 hp)
    | true =>
      have he : r.err ⟨4, aid.data.toList, aother.data.toList, aobj.data.toList⟩ = 0 := by unfold RS.err Ed.two; simp [hp]
      exact key 0 _ he (by unfold RS.step RS.said Ed.two; rw [he]; simp) (rfollow_ok4 w y vp vm r h hl1 hl2 aid aother aobj c3 c4 c5 c6 c7 c8 c10 c11 c12 c13 c14 hp)
  · cases hp : r.pair aid.data.toList aid.data.toList with
    | false =>
      have he : r.err ⟨5, aid.data.toList, aother.data.toList, aobj.data.toList⟩ = 11 := by unfold RS.err Ed.two; simp [hp]
      exact key 11 r he (bad 11 (by decide) he) (rfollow_none5 w y vp vm r h hl1 hl2 aid aother aobj c3 c4 c5 c6 c7 c8 c10 c11 c12 c13 c14 hp)
    | true =>
      have he : r.err ⟨5, aid.data.toList, aother.data.toList, aobj.data.toList⟩ = 0 := by unfold RS.err Ed.two; simp [hp]
      exact key 0 _ he (by unfold RS.step RS.said Ed.two; rw [he]; simp) (rfollow_ok5 w y vp vm r h hl1 hl2 aid aother aobj c3 c4 c5 c6 c7 c8 c10 c11 c12 c13 c14 hp)
  · by_cases hne : aid = aother
    · subst hne
      exact key 1 r (err1 (.inr ⟨by simp, rfl⟩)) (bad 1 (by decide) (err1 (.inr ⟨by simp, rfl⟩))) (rfollow_eq6 w y vp vm r h hl1 hl2 aid aobj c3 c4 c5 c6 c7 c8 c10 c11 c12 c13 c14)
    · have hnk := hnk hne
      cases hp : r.pair aid.data.toList aid.data.toList with
      | false =>
        have he : r.err ⟨6, aid.data.toList, aother.data.toList, aobj.data.toList⟩ = 11 := by unfold RS.err Ed.two; simp [hp, hnk]
        exact key 11 r he (bad 11 (by decide) he) (rfollow_none6 w y vp vm r h hl1 hl2 aid aother aobj c3 c4 c5 c6 c7 c8 c10 c11 c12 c13 c14 hne hp)
      | true =>
        by_cases hk : aother.data.toList ∈ r.ms
        · have he : r.err ⟨6, aid.data.toList, aother.data.toList, aobj.data.toList⟩ = 9 := by unfold RS.err Ed.two; simp [hp, hnk, hk]
          exact key 9 r he (bad 9 (by decide) he) (rfollow_twice6 w y vp vm r h hl1 hl2 aid aother aobj c3 c4 c5 c6 c7 c8 c10 c11 c12 c13 c14 hne hp hk)
        · have he : r.err ⟨6, aid.data.toList, aother.data.toList, aobj.data.toList⟩ = 0 := by unfold RS.err Ed.two; simp [hp, hnk, hk]
          exact key 0 _ he (by unfold RS.step RS.said Ed.two; rw [he]; simp) (rfollow_ok6 w y vp vm r h hl1 hl2 aid aother aobj c3 c4 c5 c6 c7 c8 c10 c11 c12 c13 c14 hne hp hk)
  · by_cases hne : aid = aother
    · subst hne
      exact key 1 r (err1 (.inr ⟨by simp, rfl⟩)) (bad 1 (by decide) (err1 (.inr ⟨by simp, rfl⟩))) (rfollow_eq7 w y vp vm r h hl1 hl2 aid aobj c3 c4 c5 c6 c7 c8 c10 c11 c12 c13 c14)
    · have hnk := hnk hne
      cases hp : r.pair aid.data.toList aid.data.toList with
      | false =>
        have he : r.err ⟨7, aid.data.toList, aother.data.toList, aobj.data.toList⟩ = 11 := by unfold RS.err Ed.two; simp [hp, hnk]
        exact key 11 r he (bad 11 (by decide) he) (rfollow_none7 w y vp vm r h hl1 hl2 aid aother aobj c3 c4 c5 c6 c7 c8 c10 c11 c12 c13 c14 hne hp)
      | true =>
        cases hq : r.pair aother.data.toList aother.data.toList with
        | false =>
          have he : r.err ⟨7, aid.data.toList, aother.data.toList, aobj.data.toList⟩ = 11 := by unfold RS.err Ed.two; simp [hp, hnk, hq]
          exact key 11 r he (bad 11 (by decide) he) (rfollow_other7 w y vp vm r h hl1 hl2 aid aother aobj c3 c4 c5 c6 c7 c8 c10 c11 c12 c13 c14 hne hp hq)
        | true =>
          have he : r.err ⟨7, aid.data.toList, aother.data.toList, aobj.data.toList⟩ = 0 := by unfold RS.err Ed.two; simp [hp, hnk, hq]
          exact key 0 _ he (by unfold RS.step RS.said Ed.two; rw [he]; simp) (rfollow_ok7 w y vp vm r h hl1 hl2 aid aother aobj c3 c4 c5 c6 c7 c8 c10 c11 c12 c13 c14 hne hp hq)

end Go.Proofs.Ytkbjfmlfmmmknaa
