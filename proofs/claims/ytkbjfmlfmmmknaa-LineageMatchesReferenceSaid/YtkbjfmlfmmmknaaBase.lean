/- What memory holds for a lineage: a struct, a map of maps; and the laws by which it is kept. -/
import Derived.Test.YtkbjfmlfmmmknaaRows
import Derived.Test.YtkbjfmlfmmmknaaPure
import Derived.WalkKit
import Derived.WalkSpells
import Derived.WalkLawsBesides
import Derived.Maps.OwnSet
import Derived.Maps.OwnOps
import Derived.Maps.RangeWalk
import Derived.Maps.Ext
import Derived.Sort.KeysCollected
import Derived.StringKeys
namespace Go.Proofs.Ytkbjfmlfmmmknaa
open Go.RowKit Go.Maps Go.WideMaps Go.ChangeMaps

theorem K9 : Keyed Try.prog 9 := string_keyed Try.underlying9
theorem zero4 (w : World) : (zeroValue 4).run Try.prog w = .ok (.bool false) w := by kernel_rfl
theorem zero60 (w : World) : (zeroValue 60).run Try.prog w = .ok (.map none) w := by kernel_rfl

/-- How a set reads as an element of the map of all: by its block's number. -/
def Rout : Value → Option (DataW Unit × List MemPlace)
  | .map none => some (.nil, [])
  | .map (some b) => some (.lit (.int .i64 b), [])
  | _ => none

theorem Rout_inv {v : Value} {b : Nat} {ps : List MemPlace} (h : Rout v = some (.lit (.int .i64 b), ps)) : v = .map (some b) := by
  unfold Rout at h
  split at h
  · simp at h
  · rename_i c
    simp at h
    rw [show c = b by omega]
  · simp at h

/-- Block b is a set that reads as S, each element true. -/
def SetAt (w : World) (b n : Nat) (S : Key → Bool) : Prop :=
  ∃ D : DataW Unit, w.ownsMap Try.prog 9 (plainElem Try.prog 4) b n D ∧ (∀ k, has D (.string k) = S k) ∧ ∀ k, D.atKey (.string k) (.lit (.bool false)) = .lit (.bool (S k))

/-- Nothing but blocks of F, and what is new, has turned. -/
structure Turn (F : Nat → Prop) (w w' : World) : Prop where
  os : w'.os = w.os
  tape : w'.tape = w.tape
  output : w'.output = w.output
  size : w.heap.size ≤ w'.heap.size
  block : ∀ i, i < w.heap.size → ¬ F i → w'.heap[i]? = w.heap[i]?

structure LinAt (w : World) (x : Nat) (F : Nat → Prop) (n : Nat) (st : St) (bo : Nat) (D : DataW Unit) (blk : Key → Nat) : Prop where
  xc : w.heap[x]? = some (.cells #[.map (some bo)] 55 (0, 0))
  own : w.ownsMap Try.prog 9 Rout bo n D
  has_ : ∀ k, has D (.string k) = (st k).isSome
  at_ : ∀ k S, st k = some S → D.atKey (.string k) .nil = .lit (.int .i64 (blk k)) ∧ SetAt w (blk k) n S ∧ F (blk k) ∧ blk k ≠ bo
  inj : ∀ k k', (st k).isSome = true → (st k').isSome = true → blk k = blk k' → k = k'
  Fx : F x
  Fo : F bo
  lt : ∀ i, F i → i < w.heap.size

/-- At block x stands a lineage whose sets are st, of at most n Ids each; its memory is F. -/
def Lin (w : World) (x : Nat) (F : Nat → Prop) (n : Nat) (st : St) : Prop := ∃ bo D blk, LinAt w x F n st bo D blk

theorem plainElem_bool_inv {P : Program} {e : TypeId} (he : P.underlying e = some .bool) {v : Value} {z : DataW Unit × List MemPlace} (h : plainElem P e v = some z) : ∃ a, v = .bool a ∧ z = (.lit (.bool a), []) := by
  unfold plainElem at h
  rw [he] at h
  cases v <;> simp at h
  exact ⟨_, rfl, h.symm⟩

theorem SetAt.look {w : World} {b n : Nat} {S : Key → Bool} (h : SetAt w b n S) {s : ByteArray} (hs : s.size ≤ maxLen) :
    (Instr.lookup 60 (.map (some b)) (.string s) false).run Try.prog w = .ok (.bool (S s.data.toList)) w := by
  obtain ⟨D, hown, _, hat⟩ := h
  obtain ⟨v, ps, hrun, hv⟩ := hown.lookup K9 Try.underlying60 (zero4 w) (plainElem_bool Try.underlying4 false) (keyOf_string_mk Try.underlying9 hs)
  rw [hat] at hv
  obtain ⟨a, rfl, hz⟩ := plainElem_bool_inv Try.underlying4 hv
  simp at hz
  rw [hz.1]
  exact hrun

/-! ### Turn -/
theorem Turn.refl (F : Nat → Prop) (w : World) : Turn F w w := ⟨rfl, rfl, rfl, Nat.le_refl _, fun _ _ _ => rfl⟩
theorem Turn.trans {F : Nat → Prop} {a b c : World} (h : Turn F a b) (k : Turn F b c) : Turn F a c :=
  ⟨k.os.trans h.os, k.tape.trans h.tape, k.output.trans h.output, Nat.le_trans h.size k.size, fun i hi hF => (k.block i (Nat.lt_of_lt_of_le hi h.size) hF).trans (h.block i hi hF)⟩
/-- .. where the second step may turn what the first has made. -/
theorem Turn.then_ {F F' : Nat → Prop} {a b c : World} (h : Turn F a b) (k : Turn F' b c) (hF : ∀ i, F' i → F i ∨ a.heap.size ≤ i) : Turn F a c :=
  ⟨k.os.trans h.os, k.tape.trans h.tape, k.output.trans h.output, Nat.le_trans h.size k.size, fun i hi hn => (k.block i (Nat.lt_of_lt_of_le hi h.size) (fun hf => (hF i hf).elim hn (fun h' => by omega))).trans (h.block i hi hn)⟩
theorem Turn.mono {F F' : Nat → Prop} {a b : World} (h : Turn F a b) (hF : ∀ i, F i → F' i) : Turn F' a b :=
  ⟨h.os, h.tape, h.output, h.size, fun i hi hn => h.block i hi (fun hf => hn (hF i hf))⟩
theorem Turn.of_grown {F : Nat → Prop} {a b : World} {row : Option Nat} (h : a.grownBy b row) (hr : ∀ i, row = some i → F i) : Turn F a b :=
  ⟨h.os, h.tape, h.output, h.size, fun i hi hn => h.block i hi (fun e => hn (hr i e.symm))⟩
theorem Turn.of_below {F : Nat → Prop} {a b : World} (h : Below a.heap.size a b) : Turn F a b := ⟨h.os, h.tape, h.output, h.size, fun i hi _ => h.block i hi⟩
theorem Turn.drew (F : Nat → Prop) (w : World) : Turn F w w.drew := ⟨rfl, rfl, rfl, Nat.le_refl _, fun _ _ _ => rfl⟩
theorem Turn.alloc (F : Nat → Prop) (w : World) (o : Obj) : Turn F w (w.alloc o) := ⟨rfl, rfl, rfl, by simp, fun i hi _ => Below.heap_alloc w o i hi⟩
/-- What lies above all that was there when the call began is turned: nothing of before is. -/
theorem Turn.below {F : Nat → Prop} {a b : World} {B : Nat} (h : Turn F a b) (hB : ∀ i, F i → B ≤ i) (hs : B ≤ a.heap.size) : Below B a b :=
  ⟨h.os, h.tape, h.output, h.size, fun i hi => h.block i (by omega) (fun hf => by have := hB i hf; omega)⟩

theorem SetAt.lt {w : World} {b n : Nat} {S : Key → Bool} (h : SetAt w b n S) : b < w.heap.size := by
  obtain ⟨D, hown, _⟩ := h; exact hown.lt
theorem SetAt.mono {w : World} {b n n' : Nat} {S : Key → Bool} (h : SetAt w b n S) (hn : n ≤ n') : SetAt w b n' S := by
  obtain ⟨D, hown, h1⟩ := h; exact ⟨D, hown.mono hn, h1⟩
theorem SetAt.of_block {w w' : World} {b n : Nat} {S : Key → Bool} (h : SetAt w b n S) (hb : w'.heap[b]? = w.heap[b]?) : SetAt w' b n S := by
  obtain ⟨D, ⟨es, clock, h1, h2⟩, h3⟩ := h
  exact ⟨D, ⟨es, clock, hb.trans h1, h2⟩, h3⟩
theorem SetAt.turn {w w' : World} {b n : Nat} {S : Key → Bool} {F : Nat → Prop} (h : SetAt w b n S) (ht : Turn F w w') (hb : ¬ F b) : SetAt w' b n S := h.of_block (ht.block b h.lt hb)
theorem ownsMap_of_block {P : Program} {k : TypeId} {R : Value → Option (DataW Unit × List MemPlace)} {w w' : World} {b n : Nat} {D : DataW Unit} (h : w.ownsMap P k R b n D) (hb : w'.heap[b]? = w.heap[b]?) : w'.ownsMap P k R b n D := by
  obtain ⟨es, clock, h1, h2⟩ := h
  exact ⟨es, clock, hb.trans h1, h2⟩

/-- The lineage stays what it is while other blocks turn. -/
theorem LinAt.turn {w w' : World} {x n bo : Nat} {F G : Nat → Prop} {st : St} {D : DataW Unit} {blk : Key → Nat} (h : LinAt w x F n st bo D blk) (ht : Turn G w w') (hd : ∀ i, F i → ¬ G i) : LinAt w' x F n st bo D blk where
  xc := (ht.block x (h.lt x h.Fx) (hd x h.Fx)).trans h.xc
  own := ownsMap_of_block h.own (ht.block bo (h.lt bo h.Fo) (hd bo h.Fo))
  has_ := h.has_
  at_ k S hs := by
    obtain ⟨h1, h2, h3, h4⟩ := h.at_ k S hs
    exact ⟨h1, h2.turn ht (hd _ h3), h3, h4⟩
  inj := h.inj
  Fx := h.Fx
  Fo := h.Fo
  lt i hi := Nat.lt_of_lt_of_le (h.lt i hi) ht.size

theorem Lin.turn {w w' : World} {x n : Nat} {F G : Nat → Prop} {st : St} (h : Lin w x F n st) (ht : Turn G w w') (hd : ∀ i, F i → ¬ G i) : Lin w' x F n st := by
  obtain ⟨bo, D, blk, h⟩ := h
  exact ⟨bo, D, blk, h.turn ht hd⟩
theorem Lin.lt {w : World} {x n : Nat} {F : Nat → Prop} {st : St} (h : Lin w x F n st) : ∀ i, F i → i < w.heap.size := by
  obtain ⟨bo, D, blk, h⟩ := h
  exact h.lt
theorem LinAt.mono {w : World} {x n n' bo : Nat} {F : Nat → Prop} {st : St} {D : DataW Unit} {blk : Key → Nat} (h : LinAt w x F n st bo D blk) (hn : n ≤ n') : LinAt w x F n' st bo D blk :=
  ⟨h.xc, h.own.mono hn, h.has_, fun k S hs => by obtain ⟨h1, h2, h3⟩ := h.at_ k S hs; exact ⟨h1, h2.mono hn, h3⟩, h.inj, h.Fx, h.Fo, h.lt⟩
theorem Lin.mono {w : World} {x n n' : Nat} {F : Nat → Prop} {st : St} (h : Lin w x F n st) (hn : n ≤ n') : Lin w x F n' st := by
  obtain ⟨bo, D, blk, h⟩ := h
  exact ⟨bo, D, blk, h.mono hn⟩

/-! ### the receiver's cell -/
theorem LinAt.cell {w : World} {x n bo : Nat} {F : Nat → Prop} {st : St} {D : DataW Unit} {blk : Key → Nat} (h : LinAt w x F n st bo D blk) : w.cell? ⟨x, 0, none⟩ = some (.map (some bo)) := by
  simp [World.cell?, h.xc]

/-! ### the look-up among all -/
theorem LinAt.look_some {w : World} {x n bo : Nat} {F : Nat → Prop} {st : St} {D : DataW Unit} {blk : Key → Nat} (h : LinAt w x F n st bo D blk) {s : ByteArray} (hs : s.size ≤ maxLen) {S : Key → Bool} (hk : st s.data.toList = some S) :
    (Instr.lookup 53 (.map (some bo)) (.string s) true).run Try.prog w = .ok (.tuple #[.map (some (blk s.data.toList)), .bool true]) w := by
  obtain ⟨v, ps, hrun, hv⟩ := h.own.look_ok K9 Try.underlying53 (zero60 w) (zd := .nil) (zp := []) rfl (keyOf_string_mk Try.underlying9 hs)
  rw [(h.at_ _ S hk).1] at hv
  obtain rfl := Rout_inv hv
  rw [h.has_, hk] at hrun
  exact hrun

theorem LinAt.look_none {w : World} {x n bo : Nat} {F : Nat → Prop} {st : St} {D : DataW Unit} {blk : Key → Nat} (h : LinAt w x F n st bo D blk) {s : ByteArray} (hs : s.size ≤ maxLen) (hk : st s.data.toList = none) :
    (Instr.lookup 53 (.map (some bo)) (.string s) true).run Try.prog w = .ok (.tuple #[.map none, .bool false]) w := by
  obtain ⟨v, ps, hrun, hv⟩ := h.own.look_ok K9 Try.underlying53 (zero60 w) (zd := .nil) (zp := []) rfl (keyOf_string_mk Try.underlying9 hs)
  have hn : has D (.string s.data.toList) = false := by rw [h.has_, hk]; rfl
  rw [atKey_of_not_has hn] at hv
  rw [hn] at hrun
  have : v = .map none := by
    unfold Rout at hv
    split at hv
    · rfl
    · simp at hv
    · simp at hv
  rw [this] at hrun
  exact hrun

/-! ### a store into a set, at the operation -/
/-- A literal's entry is laid in. -/
theorem wpList_insert_own {H : Type} {P : Program} (w : World) {ops : Array Oper} {rest : List Oper} {o : Oper} {a : Act} {Q : Exit → Act → World → Prop}
    (hg : o.guard = none) (m x v : Operand) (t : TypeId) (hop : o.op = Op.insert t m x v)
    (k e : TypeId) (K : Keyed P k) (ht : P.underlying t = some (.map k e)) (R : Value → Option (DataW H × List MemPlace)) (b n : Nat) (D : DataW H)
    (hm : a.eval m = .map (some b)) (hown : w.ownsMap P k R b n D) (hn : n < maxLen) (key val : Value) (kl : Lit) (hx : a.eval x = key) (hv : a.eval v = val) (hkey : keyOf P k key = some kl)
    (d : DataW H) (ps : List MemPlace) (hval : R val = some (d, ps))
    (hK : ∀ w', w'.ownsMap P k R b (n + 1) (D.put kl d) → w.grownBy w' (some b) → wpList P ops Q rest (a.put o.dst undef) w') :
    wpList P ops Q (o :: rest) a w := by
  refine wpList_plain hg fun K' hK' => ?_
  obtain ⟨w', hrun, r1, r2⟩ := hown.update K ht hn hkey hval
  unfold Oper.wp
  simp [execOp, hop, hm, hx, hv, hrun, Result.andThen]
  exact hK' _ _ (hK w' r1 r2)

theorem isKey_str (k : Key) : Go.WideAt.IsKeyLit (.string k) := trivial

theorem strLit_ne {k k' : Key} (h : k ≠ k') : (Lit.string k) ≠ Lit.string k' := fun e => h (by simpa using e)

/-- s[k] = true. -/
theorem set_put {D : DataW Unit} {S : Key → Bool} (hm : IsMap D) (h1 : ∀ k, has D (.string k) = S k) (h2 : ∀ k, D.atKey (.string k) (.lit (.bool false)) = .lit (.bool (S k))) (k : Key) :
    (∀ j, has (D.put (.string k) (.lit (.bool true))) (.string j) = (S j || j == k)) ∧ ∀ j, (D.put (.string k) (.lit (.bool true))).atKey (.string j) (.lit (.bool false)) = .lit (.bool (S j || j == k)) := by
  refine ⟨fun j => ?_, fun j => ?_⟩
  · by_cases e : j = k
    · subst e; rw [has_put_same hm (isKey_str j)]; simp
    · rw [has_put_other (strLit_ne e), h1]; simp [e]
  · by_cases e : j = k
    · subst e; rw [atKey_put_same hm (isKey_str j)]; simp
    · rw [atKey_put_other (strLit_ne e), h2]; simp [e]

/-- delete(s, k). -/
theorem set_del {D : DataW Unit} {S : Key → Bool} (h1 : ∀ k, has D (.string k) = S k) (h2 : ∀ k, D.atKey (.string k) (.lit (.bool false)) = .lit (.bool (S k))) (k : Key) :
    (∀ j, has (D.del (.string k)) (.string j) = (S j && !(j == k))) ∧ ∀ j, (D.del (.string k)).atKey (.string j) (.lit (.bool false)) = .lit (.bool (S j && !(j == k))) := by
  refine ⟨fun j => ?_, fun j => ?_⟩
  · by_cases e : j = k
    · subst e; rw [has_del_same]; simp
    · rw [has_del_other (strLit_ne e), h1]; simp [e]
  · by_cases e : j = k
    · subst e; rw [atKey_del_same]; simp
    · rw [atKey_del_other (strLit_ne e), h2]; simp [e]

end Go.Proofs.Ytkbjfmlfmmmknaa
