/- The walks of New, Gone and Then, said of a lineage. -/
import Derived.Test.YtkbjfmlfmmmknaaS1
import Derived.Sort.OwnSorted
import Derived.Maps.AppendAt
import Derived.Deep.LoopGhost
namespace Go.Proofs.Ytkbjfmlfmmmknaa
open Go.RowKit Go.Maps Go.WideMaps Go.ChangeMaps Go.Sort

/-- New's lineage: no Id is mentioned. -/
def NewPost (w : World) (e : Ending) (w' : World) : Prop :=
  ∃ x F, e = .returned (.pointer (some ⟨x, 0, none⟩)) ∧ Lin w' x F 0 (fun _ => none) ∧ Below w.heap.size w w' ∧ ∀ i, F i → w.heap.size ≤ i

theorem new_any (w : World) : Calls Try.prog 12 #[] w (NewPost w) := by
  refine (new_raw w).mono ?_
  rintro e w' ⟨rfl, rfl⟩
  have hown := World.ownsMap_made (H := Unit) w Try.prog 9 Rout
  refine ⟨w.heap.size + 1, fun i => i = w.heap.size ∨ i = w.heap.size + 1, rfl, ⟨w.heap.size, .map [], fun _ => 0, ?_, hown.alloc _, fun _ => rfl, fun _ _ h => (by cases h), fun _ _ h => (by cases h), .inr rfl, .inl rfl, ?_⟩, ?_, ?_⟩
  · have := heap_alloc_new (w.alloc (.map #[] 0)) (.cells #[.map (some w.heap.size)] 55)
    simpa using this
  · rintro i (rfl | rfl)
    · simp; omega
    · simp
  · exact ((Below.refl _ w).alloc (Nat.le_refl _) _).alloc (by simp) _
  · rintro i (rfl | rfl) <;> omega

/-! ### Gone -/
theorem size_zero {w : World} {P : Program} {R : Value → Option (DataW Unit × List MemPlace)} {b n : Nat} {D : DataW Unit} (hP : P.underlying 9 = some .string) (h : w.ownsMap P 9 R b n D) : size D = 0 ↔ ∀ k, has D (.string k) = false := by
  obtain ⟨es, rfl, hk⟩ := h.keysOf
  constructor
  · intro h0 k
    have : es = [] := List.eq_nil_of_length_eq_zero h0
    subst this; rfl
  · intro hn
    cases es with
    | nil => rfl
    | cons p r =>
      obtain ⟨v, hv⟩ := hk p (by simp)
      obtain ⟨x, _, hx, _⟩ := keyOf_str hP hv
      have := hn x
      rw [has_eq, List.any_cons, hx] at this
      simp [Lit.sameKey] at this

/-- How long a set is. -/
theorem SetAt.len {w : World} {b n : Nat} {S : Key → Bool} (h : SetAt w b n S) : ∃ c : Nat, (c = 0 ↔ ∀ k, S k = false) ∧ ∀ ty, (Builtin.len_ #[60] ty #[.map (some b)]).run Try.prog w = .ok (.int .i64 c) w := by
  obtain ⟨D, hown, h1, _⟩ := h
  refine ⟨size D, ?_, fun ty => hown.len Try.underlying60 ty⟩
  rw [size_zero Try.underlying9 hown]
  simp only [h1]

def GonePost (w : World) (S : Key → Bool) (e : Ending) (w' : World) : Prop := ∃ b, e = .returned (.bool b) ∧ (b = true ↔ ∀ k, S k = false) ∧ Below w.heap.size w w'

theorem gone_nil (w : World) (s : ByteArray) : Calls Try.prog 21 #[.pointer none, .string s] w fun e w' => e = .returned (.bool false) ∧ w = w' := by
  go_enter Try.func21, Try.ntmps21
  go_wp2
  go_ret
  exact ⟨rfl, rfl⟩

set_option maxHeartbeats 1000000 in
theorem gone_any (w : World) (x n : Nat) (F : Nat → Prop) (st : St) (s : ByteArray) (h : Lin w x F n st) (hs : s.size ≤ maxLen) :
    Calls Try.prog 21 #[.pointer (some ⟨x, 0, none⟩), .string s] w (GonePost w (ofS st s.data.toList)) := by
  obtain ⟨bo, D, blk, hL⟩ := h
  have hof := of_any w x n bo F st D blk s hL hs
  clear hL
  generalize ofS st s.data.toList = S at *
  go_enter Try.func21, Try.ntmps21
  go_wp2_with (go_at_call 29; refine hof.mono ?_; rintro e W1 ⟨b, rfl, hset, hg⟩; obtain ⟨c, hc0, hlen⟩ := hset.len; have HC0 := Lib.hid hc0; clear hc0 hset; have HG := Lib.hid hg; clear hg)
  go_ret
  refine ⟨_, rfl, ?_, ⟨HG.out.os, HG.out.tape, HG.out.output, HG.out.size, fun i hi => HG.out.block i hi (by simp)⟩⟩
  rw [← HC0.out]
  simp

/-! ### Then -/
/-- The library's sort of strings, at this program. -/
def SortC : Prop :=
  (∀ (blk off cap : Nat) (ss : List (List UInt8)) (W : World), Holds encStr W blk off ss.toArray → blk < W.heap.size → ss.length < 4611686018427387904 →
    Calls Try.prog 39 #[.slice (some ⟨blk, off, none⟩) ss.length cap] W fun e w' => e = .returned (.tuple #[]) ∧ ∃ k os, w' = grow (putRow encStr (Sort.ahead W k) blk off (ss.mergeSort fun x y => decide (x ≤ y)).toArray) os) ∧
  ∀ (p : Option Addr) (cap : Nat) (W : World), Calls Try.prog 39 #[.slice p 0 cap] W fun e w' => e = .returned (.tuple #[]) ∧ w' = W

def SortPost (w : World) (base : Nat) (v : Value) (ss : List Key) (e : Ending) (w' : World) : Prop :=
  e = .returned (.tuple #[]) ∧ w'.ownsRow base 9 1 v ss.length ((ss.mergeSort leB).map encStr) ∧ w.grownBy w' v.ownBlock

theorem sort_own (hS : SortC) (w : World) (base : Nat) (v : Value) (ss : List Key) (h : w.ownsRow base 9 1 v ss.length (ss.map encStr)) (hl : ss.length ≤ 2000000) : Calls Try.prog 39 #[v] w (SortPost w base v ss) := by
  rcases h.2 with ⟨rfl, h0⟩ | ⟨g, cap, cur, rfl, hbase, hgb, r1, r2, r3, r4⟩
  · obtain rfl := List.eq_nil_of_length_eq_zero h0
    refine (hS.2 none 0 w).mono ?_
    rintro e w' ⟨rfl, rfl⟩
    exact ⟨rfl, by simpa using h, World.grownBy.refl _ _⟩
  · have hH : Holds encStr w g 0 ss.toArray := holds_of_block hgb (by simpa using r4)
    have hgl : g < w.heap.size := (Array.getElem?_eq_some_iff.1 hgb).1
    refine (hS.1 g 0 cap ss w hH hgl (by omega)).mono ?_
    rintro e w' ⟨rfl, nn, os, rfl⟩
    exact ⟨rfl, ownsRow_sorted (by simp) hbase hgb r1 r2 r3, grownBy_sorted _⟩

def toB (k : Key) : ByteArray := ⟨k.toArray⟩

/-- A row that the call owns is a slice of strings. -/
theorem SL_of_own {w : World} {base : Nat} {v : Value} {ss : List Key} (h : w.ownsRow base 9 1 v ss.length (ss.map encStr)) (hl : ss.length ≤ 1000000) : SL w v (ss.map toB) := by
  refine ⟨by simpa using hl, ?_⟩
  rcases h.2 with ⟨rfl, h0⟩ | ⟨g, cap, cur, rfl, hbase, hgb, r1, r2, r3, r4⟩
  · obtain rfl := List.eq_nil_of_length_eq_zero h0
    exact .inl ⟨rfl, rfl⟩
  · refine .inr ⟨g, cap, by simp, (Array.getElem?_eq_some_iff.1 hgb).1, fun i hi => ?_⟩
    have hi' : i < ss.length := by simpa using hi
    rw [cell_of_row w g i cur 9 (0, 0) hgb, ← Array.getElem?_toList, ← List.getElem?_take_of_lt (j := ss.length * 1) (by omega), r4]
    simp [hi', toB]

/-- What Now and Then hand back: the Ids of which M holds, in strictly increasing order; nothing of before has turned. -/
def ListPost (w : World) (M : Key → Prop) (e : Ending) (w' : World) : Prop :=
  ∃ (v : Value) (ks : List Key), e = .returned v ∧ SL w' v (ks.map toB) ∧ ks.Pairwise (· < ·) ∧ (∀ k, k ∈ ks ↔ M k) ∧ Below w.heap.size w w' ∧ ∀ g, v.ownBlock = some g → w.heap.size ≤ g

theorem sorted_strict {ss : List Key} (hn : ss.Nodup) : (ss.mergeSort leB).Pairwise (· < ·) := by
  have tr : ∀ a b c : List UInt8, leB a b = true → leB b c = true → leB a c = true := fun a b c h1 h2 => by simp only [leB, decide_eq_true_eq] at *; exact List.le_trans h1 h2
  have to : ∀ a b : List UInt8, (leB a b || leB b a) = true := fun a b => by simp only [leB, Bool.or_eq_true, decide_eq_true_eq]; exact List.le_total a b
  have h1 := List.pairwise_mergeSort tr to ss
  have h2 : (ss.mergeSort leB).Nodup := (List.mergeSort_perm ss leB).nodup_iff.2 hn
  refine (h1.and h2).imp ?_
  rintro a b ⟨hab, hne⟩
  simp only [leB, decide_eq_true_eq] at hab
  rcases Classical.em (a < b) with h | h
  · exact h
  · exact absurd (List.le_antisymm hab (List.not_lt.1 h)) hne

/-- Between two rounds of Then. -/
structure ThenI (w wr : World) (x : Nat) (F : Nat → Prop) (n : Nat) (st : St) (bo : Nat) (D : DataW Unit) (blk : Key → Nat) (r : Nat) (id : Key) (left : Lit → Bool) (cnt : Nat) (v : Value) (ss : List Key) : Prop where
  lin : LinAt w x F n st bo D blk
  rg : wr.ranges Try.prog 9 Rout bo r n D left cnt
  bl : Below w.heap.size w wr
  rge : w.heap.size ≤ r
  row : wr.ownsRow w.heap.size 9 1 v ss.length (ss.map encStr)
  nodup : ss.Nodup
  mem : ∀ k, k ∈ ss ↔ left (.string k) = false ∧ ∃ S, st k = some S ∧ S id = true
  len : ss.length + cnt ≤ size D

/-- In a round of Then. -/
structure ThenM (w wr : World) (x : Nat) (F : Nat → Prop) (n : Nat) (st : St) (bo : Nat) (D : DataW Unit) (blk : Key → Nat) (r : Nat) (id : Key) (left : Lit → Bool) (cnt : Nat) (v : Value) (ss : List Key) (k : Key) (S : Key → Bool) : Prop where
  lin : LinAt w x F n st bo D blk
  rg : wr.ranges Try.prog 9 Rout bo r n D left cnt
  bl : Below w.heap.size w wr
  rge : w.heap.size ≤ r
  row : wr.ownsRow w.heap.size 9 1 v ss.length (ss.map encStr)
  nodup : ss.Nodup
  hk : st k = some S
  gone : left (.string k) = false
  notin : k ∉ ss
  mem : ∀ j, j ≠ k → (j ∈ ss ↔ left (.string j) = false ∧ ∃ S, st j = some S ∧ S id = true)
  len : ss.length + 1 + cnt ≤ size D

section
variable {w wr w' : World} {x n bo r cnt : Nat} {F : Nat → Prop} {st : St} {D : DataW Unit} {blk : Key → Nat} {left : Lit → Bool} {k id : Key} {S : Key → Bool} {v v' : Value} {ss : List Key}

theorem ThenM.yes (h : ThenM w wr x F n st bo D blk r id left cnt v ss k S) (hS : S id = true) {w1 : World} (hg : wr.grownBy w1 none) (hrow : w'.ownsRow w.heap.size 9 1 v' (ss.length + 1) (ss.map encStr ++ [encStr k])) (hg' : w1.grownBy w' v.ownBlock) :
    ThenI w w' x F n st bo D blk r id left cnt v' (ss ++ [k]) := by
  have hob := h.row.lt
  have hbo : some bo ≠ v.ownBlock := fun e => by have := (hob bo e.symm).1; have := h.lin.lt bo h.lin.Fo; omega
  have hrr := row_ne_iter h.row h.rg
  refine ⟨h.lin, (h.rg.kept hg (by simp) (by simp)).kept hg' hbo hrr, (h.bl.grown hg (by have := h.bl.size; omega) (by simp)).grown hg' (by have := h.bl.size; have := hg.size; omega) (fun i hi => (hob i hi).1), h.rge, by simpa using hrow, ?_, ?_, by have := h.len; simp; omega⟩
  · exact List.nodup_append.2 ⟨h.nodup, by simp, fun a ha b hb => by simp at hb; subst hb; exact fun e => h.notin (e ▸ ha)⟩
  · intro j
    by_cases e : j = k
    · subst e; simp [h.gone, h.hk, hS]
    · simp [h.mem j e, e]

theorem ThenM.no (h : ThenM w wr x F n st bo D blk r id left cnt v ss k S) (hS : S id = false) : ThenI w wr x F n st bo D blk r id left cnt v ss := by
  refine ⟨h.lin, h.rg, h.bl, h.rge, h.row, h.nodup, ?_, by have := h.len; omega⟩
  intro j
  by_cases e : j = k
  · subst e
    constructor
    · intro hj; exact absurd hj h.notin
    · rintro ⟨_, T, hT, hTi⟩
      rw [h.hk] at hT
      cases hT
      rw [hS] at hTi; cases hTi
  · exact h.mem j e

theorem ThenM.set (h : ThenM w wr x F n st bo D blk r id left cnt v ss k S) : SetAt wr (blk k) n S := by
  obtain ⟨_, h2, h3, _⟩ := h.lin.at_ k S h.hk
  exact h2.of_block (h.bl.block _ (h.lin.lt _ h3))

theorem ThenI.start (h : LinAt w x F n st bo D blk) (hg : w.grownBy w' none) (hrg : w'.ranges Try.prog 9 Rout bo w.heap.size n D (has D) (size D)) : ThenI w w' x F n st bo D blk w.heap.size id (has D) (size D) (.slice none 0 0) [] := by
  refine ⟨h, hrg, ⟨hg.os, hg.tape, hg.output, hg.size, fun i hi => hg.block i hi (by simp)⟩, Nat.le_refl _, World.ownsRow_nil _ _ _ _, List.nodup_nil, fun k => ?_, by simp⟩
  constructor
  · intro h; simp at h
  · rintro ⟨h1, S, hS, _⟩
    rw [h.has_, hS] at h1; cases h1

/-- A step of Then's range. -/
theorem wpList_next_then {ops : Array Oper} {rest : List Oper} {o : Oper} {a : Act} {Q : Exit → Act → World → Prop} (hg : o.guard = none) (it : Operand) (hop : o.op = Op.next it false)
    (hit : a.eval it = .pointer (some ⟨r, 0, none⟩)) (h : ThenI w wr x F n st bo D blk r id left cnt v ss)
    (hDone : (∀ kl, left kl = false) → wpList Try.prog ops Q rest (a.put o.dst (.tuple #[.bool false])) wr)
    (hMore : ∀ (k : Key) (S : Key → Bool) (b : Nat) (w' : World) (left' : Lit → Bool) (cnt' : Nat), b = blk k → ThenM w w' x F n st bo D blk r id left' cnt' v ss k S → cnt' < cnt →
      (Instr.entry (.pointer (some ⟨r, 0, none⟩))).run Try.prog w' = .ok (.tuple #[encStr k, .map (some b)]) w' → wpList Try.prog ops Q rest (a.put o.dst (.tuple #[.bool true, encStr k, .map (some b)])) w') :
    wpList Try.prog ops Q (o :: rest) a wr := by
  refine wpList_next_ranges wr hg it hop 9 K9 Rout encStr Value.map (fun key kl hk => by obtain ⟨k, hk', _⟩ := keyOf_str Try.underlying9 hk; exact ⟨k, hk'⟩) (fun v y hv => Rout_map hv) bo r n D left cnt hit h.rg ?_ ?_
  · intro _ hl0
    exact hDone hl0
  · intro k c kl y w' cnt' hkey hlk hv hat hrg hlt hgr hsz hen
    obtain ⟨k', ek, rfl, _⟩ := keyOf_str Try.underlying9 hkey
    obtain rfl : k = k' := encStr_inj ek
    have hl := h.lin
    have hhas := has_true_of_atKey hat
    rw [hl.has_] at hhas
    obtain ⟨S, hS⟩ := Option.isSome_iff_exists.1 hhas
    obtain ⟨h1, _, h3, h4⟩ := hl.at_ k S hS
    rw [hat .nil] at h1
    have hc : c = some (blk k) := by
      have : y = (.lit (.int .i64 (blk k)), y.2) := by rw [← h1]
      rw [this] at hv
      have := Rout_inv hv
      simpa using this
    subst hc
    have hrr := row_ne_iter h.row h.rg
    refine hMore k S (blk k) w' _ cnt' rfl ⟨hl, hrg, h.bl.grown hgr (by have := h.bl.size; omega) (fun i hi => by cases hi; exact h.rge), h.rge, h.row.kept hgr (.inr (Ne.symm hrr)), h.nodup, hS, ?_, ?_, ?_, ?_⟩ hlt hen
    · simp [Lit.sameKey]
    · intro hk
      have := ((h.mem k).1 hk).1
      rw [hlk] at this; cases this
    · intro j hne
      rw [h.mem j]
      have e1 : (left (.string j) && !(Lit.string j).sameKey (.string k)) = left (.string j) := by
        rw [sameKey_ne (strLit_ne hne)]; simp
      simp only [e1]
    · have := h.len; omega
end

theorem then_mem_some {st : St} {id : Key} {T : Key → Bool} (hk : st id = some T) (k : Key) : ofS st k id = true ↔ ∃ S, st k = some S ∧ S id = true := by
  unfold ofS
  cases h : st k with
  | some S => simp
  | none =>
    simp only [beq_iff_eq, reduceCtorEq, false_and, exists_false, iff_false]
    intro e
    rw [e, h] at hk; cases hk
theorem then_mem_none {st : St} {id : Key} {ss : List Key} (hm : ∀ k, k ∈ ss ↔ ∃ S, st k = some S ∧ S id = true) (hk : st id = none) (k : Key) : k ∈ ss ++ [id] ↔ ofS st k id = true := by
  rw [List.mem_append, hm k, List.mem_singleton]
  unfold ofS
  cases h : st k with
  | some S =>
    have : k ≠ id := fun e => by rw [e, hk] at h; cases h
    simp [this]
  | none =>
    simp only [beq_iff_eq]
    constructor
    · rintro (⟨S, h1, _⟩ | rfl)
      · cases h1
      · rfl
    · intro e; exact .inr e.symm
theorem then_nodup {st : St} {id : Key} {ss : List Key} (hn : ss.Nodup) (hm : ∀ k, k ∈ ss ↔ ∃ S, st k = some S ∧ S id = true) (hk : st id = none) : (ss ++ [id]).Nodup := by
  refine List.nodup_append.2 ⟨hn, by simp, fun a ha b hb => ?_⟩
  simp at hb; subst hb
  rintro rfl
  obtain ⟨S, hS, _⟩ := (hm a).1 ha
  rw [hk] at hS; cases hS
theorem encStr_data (s : ByteArray) : encStr s.data.toList = .string s := by
  cases s with
  | mk d => show Value.string ⟨d.toList.toArray⟩ = _; rw [Array.toArray_toList]
theorem row_snoc {w : World} {base : Nat} {v : Value} {ss : List Key} {s : ByteArray} (h : w.ownsRow base 9 1 v (ss.length + 1) (ss.map encStr ++ [.string s])) : w.ownsRow base 9 1 v (ss ++ [s.data.toList]).length ((ss ++ [s.data.toList]).map encStr) := by
  rw [List.map_append, List.map_cons, List.map_nil, encStr_data, List.length_append]
  exact h
theorem then_fin {w wr w3 : World} {x n bo r c : Nat} {F : Nat → Prop} {st : St} {D : DataW Unit} {blk : Key → Nat} {id : Key} {left : Lit → Bool} {v u : Value} {ss ts : List Key} {M : Key → Prop} (_h : ThenI w wr x F n st bo D blk r id left c v ss)
    (hrow : w3.ownsRow w.heap.size 9 1 u ts.length ((ts.mergeSort leB).map encStr)) (hn : ts.Nodup) (hm : ∀ k, k ∈ ts ↔ M k) (hb : Below w.heap.size w w3) (hl : ts.length ≤ 1000000) : ListPost w M (.returned u) w3 := by
  have hlen : (ts.mergeSort leB).length = ts.length := by simp
  rw [← hlen] at hrow
  exact ⟨u, ts.mergeSort leB, rfl, SL_of_own hrow (by omega), sorted_strict hn, fun k => by rw [List.mem_mergeSort]; exact hm k, hb, fun g hg => (hrow.lt g hg).1⟩

theorem then_nil (w : World) (s : ByteArray) : Calls Try.prog 19 #[.pointer none, .string s] w fun e w' => e = .returned (.slice none 0 0) ∧ w = w' := by
  go_enter Try.func19, Try.ntmps19
  go_wp2
  go_ret
  exact ⟨rfl, rfl⟩

theorem info9 : (Try.prog.info? 9).map (fun i => (i.zero, i.size, i.bytes)) = some (some (.string ByteArray.empty), 1, 16) := by kernel_rfl

def ThenR (w : World) (x : Nat) (F : Nat → Prop) (n : Nat) (st : St) (bo : Nat) (D : DataW Unit) (blk : Key → Nat) (r : Nat) (id : Key) (c : Nat) (v : Value) (wr : World) : Prop := ∃ left ss, ThenI w wr x F n st bo D blk r id left c v ss

set_option maxHeartbeats 2000000 in
theorem then_any (hSort : SortC) (w : World) (x n : Nat) (F : Nat → Prop) (st : St) (s : ByteArray) (h : Lin w x F n st) (hn : n < 900000) (hs : s.size ≤ maxLen) :
    Calls Try.prog 19 #[.pointer (some ⟨x, 0, none⟩), .string s] w (ListPost w fun k => ofS st k s.data.toList = true) := by
  obtain ⟨bo, D, blk, hL⟩ := h
  have hc := hL.cell
  have HL := Lib.hid hL
  obtain ⟨i0, hi, hz0, hz1, hz2⟩ := info_parts info9
  have HI := Lib.hid hi
  have HZ := Lib.hid (And.intro hz0 (And.intro hz1 hz2))
  clear hi hz0 hz1 hz2
  have hSz : size D ≤ n := hL.own.size_le
  clear hL
  go_enter Try.func19, Try.ntmps19
  go_wp2_with (at_range; refine wpList_range_own _ rfl _ 53 rfl 9 60 K9 Try.underlying53 _ bo n D rfl HL.out.own ?_; intro w0 hrg0 hg0 hs0; have HR0 := Lib.hid (ThenI.start (id := s.data.toList) HL.out hg0 hrg0); clear hs0 hrg0 hg0)
  go_frame
  go_loopg [5] (size D) (fun c v wr => ThenR w x F n st bo D blk w.heap.size s.data.toList c v wr)
  case atStart => exact ⟨_, _, HR0.out⟩
  case round =>
    clear HR0
    obtain ⟨left, ss, hI⟩ := hrel
    generalize hrr : w.heap.size = r at *
    have HRR := Lib.hid hrr
    clear hrr
    have HII := Lib.hid hI
    clear hI
    clear hc
    go_wp2_with (at_next; refine wpList_next_then rfl _ rfl rfl HII.out ?_ ?_)
    · intro hl0
      have HL0 := Lib.hid hl0
      clear hl0
      have hc : wr.cell? ⟨x, 0, none⟩ = some (.map (some bo)) := by
        have h1 := HII.out.bl.block x (HL.out.lt x HL.out.Fx)
        exact (World.cell?_of_block (a := ⟨x, 0, none⟩) h1).trans HL.out.cell
      have hmem : ∀ k, k ∈ ss ↔ ∃ S, st k = some S ∧ S s.data.toList = true := fun k => by rw [HII.out.mem k, HL0.out]; simp
      have HME := Lib.hid hmem
      clear hmem
      have hLr : LinAt wr x F n st bo D blk := HL.out.turn (G := fun _ => False) (Turn.of_below HII.out.bl) (fun _ _ h => h)
      have hlen : ss.length ≤ n := by have := HII.out.len; omega
      cases hk : st s.data.toList with
      | some T =>
        have hrun := hLr.look_some hs hk
        have HM2 := Lib.hid (fun k => (HME.out k).trans (then_mem_some hk k).symm)
        clear hk hLr
        generalize blk s.data.toList = bb at *
        have hsort := sort_own hSort wr w.heap.size u5 ss HII.out.row (by omega)
        go_wp2_with (go_at_call 39; refine hsort.mono ?_; rintro e w3 ⟨rfl, hrow3, hg3⟩)
        go_ret
        exact then_fin HII.out hrow3 HII.out.nodup HM2.out (HII.out.bl.grown hg3 (HII.out.bl.size) (fun i hi => (HII.out.row.lt i hi).1)) (by omega)
      | none =>
        have hrun := hLr.look_none hs hk
        have HM2 := Lib.hid (fun k => (then_mem_none HME.out hk k))
        have HND := Lib.hid (then_nodup HII.out.nodup HME.out hk)
        clear hk hLr
        have hq1 : ss.length + 1 ≤ maxLen := by unfold maxLen; omega
        have hq2 : (ss.length + 1) * 16 ≤ 140737488355328 := by omega
        have hq3 : w.heap.size ≤ (wr.alloc (.cells #[.string s] 9)).heap.size := by have := HII.out.bl.size; simp; omega
        go_wp2_with (first | (at_builtin; refine wpList_append_own _ rfl _ _ 33 rfl w.heap.size 9 i0 (.string ByteArray.empty) 1 16 Try.underlying33 HI.out HZ.out.1 HZ.out.2.1 HZ.out.2.2 rfl (by decide) _ _ _ rfl (HII.out.row.alloc _) ⟨wr.heap.size, 0, none⟩ 1 1 [.string s] rfl rfl (cell_one_new _ _ _) (by simp [Value.oneCell']) hq1 hq2 hq3 ?_; intro v2 w2 hown2 hg2 _; have hsort := sort_own hSort w2 w.heap.size v2 (ss ++ [s.data.toList]) (row_snoc hown2) (by simp; omega); have HG2 := Lib.hid hg2; clear hg2) | (go_at_call 39; refine hsort.mono ?_; rintro e w3 ⟨rfl, hrow3, hg3⟩))
        go_ret
        have hb2 := (HII.out.bl.alloc HII.out.bl.size (.cells #[.string s] 9)).grown HG2.out hq3 (fun i hi => (HII.out.row.lt i hi).1)
        exact then_fin HII.out hrow3 HND.out HM2.out (hb2.grown hg3 hb2.size (fun i hi => (hown2.lt i hi).1)) (by simp; omega)
    · intro k S b w' left' cnt' hb hM hlt hen
      clear HII
      have hh := has_any w' b n S s (hb ▸ hM.set) hs
      have hlen : ss.length + 1 ≤ size D := by have := hM.len; omega
      have hq1 : ss.length + 1 ≤ maxLen := by unfold maxLen; omega
      have hq2 : (ss.length + 1) * 16 ≤ 140737488355328 := by omega
      have hq3 : w.heap.size ≤ (w'.alloc (.cells #[encStr k] 9)).heap.size := by have := hM.bl.size; simp; omega
      have HM := Lib.hid hM
      clear hM hb
      cases hSi : S s.data.toList with
      | true =>
        rw [hSi] at hh
        have HSi := Lib.hid hSi
        clear hSi
        go_wp2_with (first | (go_at_call 30; refine hh.mono ?_; rintro e w1 ⟨rfl, rfl⟩) | (at_builtin; refine wpList_append_own _ rfl _ _ 33 rfl w.heap.size 9 i0 (.string ByteArray.empty) 1 16 Try.underlying33 HI.out HZ.out.1 HZ.out.2.1 HZ.out.2.2 rfl (by decide) _ _ _ rfl (HM.out.row.alloc _) ⟨w'.heap.size, 0, none⟩ 1 1 [encStr k] rfl rfl (cell_one_new _ _ _) (by simp [Value.oneCell']) hq1 hq2 hq3 ?_; intro v' w2 hown2 hg2 _))
        have h1 := HM.out.yes HSi.out (World.grownBy_alloc w' _ none) hown2 hg2
        go_roundg cnt'
        case measure => exact hlt
        case rel => exact ⟨_, _, h1⟩
      | false =>
        rw [hSi] at hh
        have HSi := Lib.hid hSi
        clear hSi
        go_wp2_with (go_at_call 30; refine hh.mono ?_; rintro e w1 ⟨rfl, rfl⟩)
        have h1 := HM.out.no HSi.out
        go_roundg cnt'
        case measure => exact hlt
        case rel => exact ⟨_, _, h1⟩

end Go.Proofs.Ytkbjfmlfmmmknaa
