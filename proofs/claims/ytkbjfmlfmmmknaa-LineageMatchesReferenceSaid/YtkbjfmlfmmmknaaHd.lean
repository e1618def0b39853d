/- The walk of head: the chapter's examples hold. -/
import Derived.Test.YtkbjfmlfmmmknaaL3
import Derived.Test.YtkbjfmlfmmmknaaPureHead
namespace Go.Proofs.Ytkbjfmlfmmmknaa
open Go.RowKit Go.Maps Go.WideMaps Go.ChangeMaps Go.Sort

section
variable {w0 w : World} {n x : Nat} {st : St} {held : List (Value × List ByteArray)}

def AtE (w0 : World) (n x : Nat) (st : St) (held : List (Value × List ByteArray)) (v : Value) (en : Ending) (w' : World) : Prop := en = .returned v ∧ Env1 w0 w' n x st held
def AtL (w0 : World) (n x : Nat) (st : St) (held : List (Value × List ByteArray)) (l : List ByteArray) (en : Ending) (w' : World) : Prop := ∃ v, en = .returned v ∧ Env1 w0 w' n x st ((v, l) :: held)

theorem Env1.follow_at (h : Env1 w0 w n x st held) (hn : n < 1000000) (e : EdC) (he : e.ok) (c : Int) (st' : St) (hc : err st e.ed = c) (hs : step st e.ed = st') :
    Calls Try.prog 14 #[.pointer (some ⟨x, 0, none⟩), e.val] w (AtE w0 (n + 4) x st' held (.int .i64 c)) := by
  refine (h.follow hn e he).mono ?_
  rintro en w' ⟨rfl, hE⟩
  rw [hc]; rw [hs] at hE
  exact ⟨rfl, hE⟩
theorem map_toB (l : List Key) (h : ∀ k, k ∈ l ↔ False) : l = [] := by
  cases l with
  | nil => rfl
  | cons a r => exact ((h a).1 (by simp)).elim
theorem Env1.now_at (h : Env1 w0 w n x st held) (hn : n < 900000) (s : ByteArray) (hs : s.size ≤ maxLen) (l : List Key) (hl : l.Pairwise (· < ·)) (hm : ∀ k, ofS st s.data.toList k = true ↔ k ∈ l) :
    Calls Try.prog 17 #[.pointer (some ⟨x, 0, none⟩), .string s] w (AtL w0 n x st held (l.map toB)) := by
  refine (h.now hn s hs).mono ?_
  rintro en w' ⟨v, ks, rfl, hE, hp, hk⟩
  have : ks = l := eq_of_rising hp hl (fun k => (hk k).trans (hm k))
  subst this
  exact ⟨v, rfl, hE⟩
theorem Env1.then_at (h : Env1 w0 w n x st held) (hn : n < 900000) (s : ByteArray) (hs : s.size ≤ maxLen) (l : List Key) (hl : l.Pairwise (· < ·)) (hm : ∀ k, ofS st k s.data.toList = true ↔ k ∈ l) :
    Calls Try.prog 19 #[.pointer (some ⟨x, 0, none⟩), .string s] w (AtL w0 n x st held (l.map toB)) := by
  refine (h.then_ hn s hs).mono ?_
  rintro en w' ⟨v, ks, rfl, hE, hp, hk⟩
  have : ks = l := eq_of_rising hp hl (fun k => (hk k).trans (hm k))
  subst this
  exact ⟨v, rfl, hE⟩
theorem Env1.same_at {u v : Value} {xs : List ByteArray} (h : Env1 w0 w n x st held) (hu : (u, xs) ∈ held) (hv : (v, xs) ∈ held) : Calls Try.prog 16 #[u, v] w (AtE w0 n x st held (.bool true)) := by
  refine (h.same hu hv).mono ?_
  rintro en w' ⟨b, rfl, hb, hE⟩
  have : b = true := hb.2 rfl
  subst this
  exact ⟨rfl, hE⟩
theorem Env1.gone_at (h : Env1 w0 w n x st held) (s : ByteArray) (hs : s.size ≤ maxLen) (hg : ∀ k, ofS st s.data.toList k = false) : Calls Try.prog 21 #[.pointer (some ⟨x, 0, none⟩), .string s] w (AtE w0 n x st held (.bool true)) := by
  refine (h.gone s hs).mono ?_
  rintro en w' ⟨b, rfl, hb, hE⟩
  have : b = true := hb.2 hg
  subst this
  exact ⟨rfl, hE⟩
theorem new_at (w : World) : Calls Try.prog 12 #[] w (EStart w 0 H0) := by
  refine (new_any w).mono ?_
  rintro en w' ⟨x, F, rfl, hL, hB, hF⟩
  exact ⟨x, rfl, F, hL, hF, hB, fun p hp => by cases hp⟩
theorem Env1.follow_nil (h : Env1 w0 w n x st held) (a : ByteArray) : Calls Try.prog 14 #[.pointer none, (edE 5 a ⟨#[]⟩ ⟨#[]⟩).val] w (AtE w0 n x st held (.int .i64 1)) := by
  refine (Ytkbjfmlfmmmknaa.follow_nil w a ⟨#[]⟩ ⟨#[]⟩ (.string ⟨#[]⟩) (.int .i64 0) (.int .i64 0) (.string ⟨#[]⟩) (.string ⟨#[]⟩) (.slice none 0 0) (.int .i64 0) (.int .i64 0) (.int .i64 0) (.slice none 0 0) (.slice none 0 0)).mono ?_
  rintro en w' ⟨rfl, ht⟩
  exact ⟨rfl, h.below ⟨ht.os, ht.tape, ht.output, ht.size, fun i hi => ht.block i hi (fun h => h)⟩⟩
theorem Env1.gone_nil (h : Env1 w0 w n x st held) (a : ByteArray) : Calls Try.prog 21 #[.pointer none, .string a] w (AtE w0 n x st held (.bool false)) :=
  (Ytkbjfmlfmmmknaa.gone_nil w a).mono fun _ _ ⟨he, hw⟩ => ⟨he, hw ▸ h⟩
theorem Env1.now_nil (h : Env1 w0 w n x st held) (a : ByteArray) : Calls Try.prog 17 #[.pointer none, .string a] w (AtE w0 n x st held (.slice none 0 0)) :=
  (Ytkbjfmlfmmmknaa.now_nil w a).mono fun _ _ ⟨he, hw⟩ => ⟨he, hw ▸ h⟩
end

def HeadPost (w : World) (en : Ending) (w' : World) : Prop := en = .returned (.bool true) ∧ Below w.heap.size w w'

theorem size1 (b : UInt8) : (⟨#[b]⟩ : ByteArray).size ≤ maxLen := by show 1 ≤ maxLen; unfold maxLen; decide
theorem size3 (a b c : UInt8) : (⟨#[a, b, c]⟩ : ByteArray).size ≤ maxLen := by show 3 ≤ maxLen; unfold maxLen; decide
theorem size0 : (⟨#[]⟩ : ByteArray).size ≤ maxLen := by unfold maxLen; decide

set_option maxHeartbeats 8000000 in
set_option maxRecDepth 100000 in
theorem head_any (w : World) : Calls Try.prog 10 #[] w (HeadPost w) := by
  have hnew := new_at w
  go_enter Try.func10, Try.ntmps10
  go_wp2_with (go_at_call 12; refine hnew.mono ?_; rintro en w1 ⟨x, rfl, hE⟩; clear hnew)
  refine (hE.split _ _).mono ?_
  rintro en w2 ⟨rfl, hE⟩
  go_wp2_with fail
  refine (hE.follow_at (by omega) _ (edE_ok (size1 _) (size1 _)) 0 H1 err1 rfl).mono ?_
  rintro en w3 ⟨rfl, hE⟩
  go_wp2_with fail
  refine (hE.split _ _).mono ?_
  rintro en w4 ⟨rfl, hE⟩
  go_wp2_with fail
  refine (hE.follow_at (by omega) _ (edE_ok (size1 _) (size1 _)) 0 H2 err2 rfl).mono ?_
  rintro en w5 ⟨rfl, hE⟩
  go_wp2_with fail
  refine (hE.now_at (by omega) _ (size1 _) [[117], [118], [119]] rise3 now2).mono ?_
  rintro en w6 ⟨v, rfl, hE⟩
  go_wp2_with fail
  have hE2 := hE.lit (([[117], [118], [119]] : List Key).map toB) (by decide)
  refine (hE2.same_at (.tail _ (.head _)) (.head _)).mono ?_
  rintro en w7 ⟨rfl, hE3⟩
  have hE := hE3.less (held' := []) (fun _ h => by cases h)
  clear hE2 hE3
  go_wp2_with fail
  refine (hE.then_at (by omega) _ (size1 _) [[117], [118], [119]] rise3 then2).mono ?_
  rintro en w8 ⟨v, rfl, hE⟩
  go_wp2_with fail
  have hE2 := hE.lit (([[117], [118], [119]] : List Key).map toB) (by decide)
  refine (hE2.same_at (.tail _ (.head _)) (.head _)).mono ?_
  rintro en w9 ⟨rfl, hE3⟩
  have hE := hE3.less (held' := []) (fun _ h => by cases h)
  clear hE2 hE3
  go_wp2_with fail
  refine (hE.drop _).mono ?_
  rintro en w10 ⟨rfl, hE⟩
  go_wp2_with fail
  refine (hE.follow_at (by omega) _ (edE_ok (size1 _) size0) 0 H3 err3 rfl).mono ?_
  rintro en w11 ⟨rfl, hE⟩
  go_wp2_with fail
  refine (hE.join _ _).mono ?_
  rintro en w12 ⟨rfl, hE⟩
  go_wp2_with fail
  refine (hE.follow_at (by omega) _ (edE_ok (size1 _) (size1 _)) 0 H4 err4 rfl).mono ?_
  rintro en w13 ⟨rfl, hE⟩
  go_wp2_with fail
  refine (hE.now_at (by omega) _ (size1 _) [[118]] (rise1 _) now4).mono ?_
  rintro en w14 ⟨v, rfl, hE⟩
  go_wp2_with fail
  have hE2 := hE.lit (([[118]] : List Key).map toB) (by decide)
  refine (hE2.same_at (.tail _ (.head _)) (.head _)).mono ?_
  rintro en w15 ⟨rfl, hE3⟩
  have hE := hE3.less (held' := []) (fun _ h => by cases h)
  clear hE2 hE3
  go_wp2_with fail
  refine (hE.then_at (by omega) _ (size1 _) [[117], [118], [119]] rise3 then4).mono ?_
  rintro en w16 ⟨v, rfl, hE⟩
  go_wp2_with fail
  have hE2 := hE.lit (([[117], [118], [119]] : List Key).map toB) (by decide)
  refine (hE2.same_at (.tail _ (.head _)) (.head _)).mono ?_
  rintro en w17 ⟨rfl, hE3⟩
  have hE := hE3.less (held' := []) (fun _ h => by cases h)
  clear hE2 hE3
  go_wp2_with fail
  refine (hE.drop _).mono ?_
  rintro en w18 ⟨rfl, hE⟩
  go_wp2_with fail
  refine (hE.follow_at (by omega) _ (edE_ok (size1 _) size0) 0 H5 err5 rfl).mono ?_
  rintro en w19 ⟨rfl, hE⟩
  go_wp2_with fail
  refine (hE.gone_at _ (size1 _) gone5).mono ?_
  rintro en w20 ⟨rfl, hE⟩
  go_wp2_with fail
  refine (hE.drop _).mono ?_
  rintro en w21 ⟨rfl, hE⟩
  go_wp2_with fail
  refine (hE.follow_at (by omega) _ (edE_ok (size1 _) size0) 11 H5 err6 step6).mono ?_
  rintro en w22 ⟨rfl, hE⟩
  go_wp2_with fail
  refine (hE.split _ _).mono ?_
  rintro en w23 ⟨rfl, hE⟩
  go_wp2_with fail
  refine (hE.follow_at (by omega) _ (edE_ok (size1 _) (size1 _)) 9 H5 err7 step7).mono ?_
  rintro en w24 ⟨rfl, hE⟩
  go_wp2_with fail
  refine (hE.join _ _).mono ?_
  rintro en w25 ⟨rfl, hE⟩
  go_wp2_with fail
  refine (hE.follow_at (by omega) _ (edE_ok (size1 _) (size1 _)) 1 H5 err8 step8).mono ?_
  rintro en w26 ⟨rfl, hE⟩
  go_wp2_with fail
  refine (hE.drop _).mono ?_
  rintro en w27 ⟨rfl, hE⟩
  go_wp2_with fail
  refine (hE.follow_nil _).mono ?_
  rintro en w28 ⟨rfl, hE⟩
  go_wp2_with fail
  refine (hE.gone_nil _).mono ?_
  rintro en w29 ⟨rfl, hE⟩
  go_wp2_with fail
  refine (hE.now_nil _).mono ?_
  rintro en w30 ⟨rfl, hE⟩
  go_wp2_with fail
  refine (hE.now_at (by omega) _ (size3 _ _ _) [[110, 101, 119]] (rise1 _) now5).mono ?_
  rintro en w31 ⟨v, rfl, hE⟩
  go_wp2_with fail
  have hE2 := hE.lit (([[110, 101, 119]] : List Key).map toB) (by decide)
  refine (hE2.same_at (.tail _ (.head _)) (.head _)).mono ?_
  rintro en w32 ⟨rfl, hE3⟩
  have hE := hE3.less (held' := []) (fun _ h => by cases h)
  clear hE2 hE3
  go_wp2_with fail
  go_ret
  exact ⟨rfl, hE.old⟩

end Go.Proofs.Ytkbjfmlfmmmknaa
