/- The walk of All. -/
import Derived.Test.YtdpbihbcggpobaaT9
import Derived.Test.YtdpbihbcggpobaaT10
import Derived.Deep.RegionHeld3
import Derived.StillTailTactics
import Derived.Deep.DeepCutAuto
namespace Go.Proofs.Ytdpbihbcggpobaa
open Go.RowKit Go.Maps

theorem at_load34 {P : Program} {ops : Array Oper} {rest : List Oper} {o : Oper} {a : Act} {w : World} {Q : Exit → Act → World → Prop} (x : Operand) (_ho : o.op = .load 34 x) (h : wpList P ops Q (o :: rest) a w) : wpList P ops Q (o :: rest) a w := h

def AllOK (w : World) (l : List Sg) (e : Ending) (w' : World) : Prop :=
  ∃ v, e = .returned (.tuple #[v, .int .i64 0]) ∧ w'.ownsRow w.heap.size 36 3 v (allP (kindOf l) l.length l.length).length ((allP (kindOf l) l.length l.length).flatMap mtCells) ∧ Below w.heap.size w w'

/-- Between the rounds of the first loop: the first items stand in the row. -/
structure Fill (w : World) (l : List Sg) (k : Nat) (L : List It) (wr : World) : Prop where
  len : L.length = l.length
  tk : L.take k = (items l).take k
  row : RowIs wr w.heap.size L []
  bl : Below w.heap.size w wr

theorem Fill.below {w wr w' : World} {l : List Sg} {k : Nat} {L : List It} (h : Fill w l k L wr) (hb : Below wr.heap.size wr w') : Fill w l k L w' := ⟨h.len, h.tk, h.row.below hb, h.bl.trans (hb.mono h.bl.size)⟩
theorem Fill.there {w wr : World} {l : List Sg} {k : Nat} {L : List It} (h : Fill w l k L wr) (hk : k < l.length) : wr.there w.heap.size (k * 9) 9 ∧ w.heap.size < wr.heap.size :=
  ⟨h.row.there (by rw [h.len]; exact hk), by have := h.row; unfold RowIs Blk at this; exact (Array.getElem?_eq_some_iff.1 this).1⟩
theorem Fill.set {w wr : World} {l : List Sg} {k : Nat} {L : List It} (h : Fill w l k L wr) (hk : k < l.length) : Fill w l (k + 1) (L.set k ⟨k, l[k]⟩) (wr.setCells w.heap.size (k * 9) (itCells ⟨k, l[k]⟩)) := by
  have hkL : k < L.length := by rw [h.len]; exact hk
  have hkI : k < (items l).length := by rw [items_length]; exact hk
  refine ⟨by simpa using h.len, ?_, h.row.set hkL _, h.bl.grown (setCells_grown _ _ _ _) h.bl.size (fun b e => by cases e; exact Nat.le_refl _)⟩
  rw [List.take_add_one, List.take_set_of_le (Nat.le_refl k), h.tk, List.getElem?_set_self hkL, List.take_add_one, List.getElem?_eq_getElem hkI, items_at hk]
theorem blk4 {w : World} {X : Nat} {a b c d : Value} {t : TypeId} (h : Blk w X [a, b, c, d] t) : w.cell? ⟨X, 0, none⟩ = some a ∧ w.cell? ⟨X, 1, none⟩ = some b ∧ w.cell? ⟨X, 2, none⟩ = some c ∧ w.cell? ⟨X, 3, none⟩ = some d := ⟨h.c 0 rfl, h.c 1 rfl, h.c 2 rfl, h.c 3 rfl⟩
theorem blk4_chain {w : World} {X G o : Nat} {a b c d : Value} {t : TypeId} (h : Blk w X [a, b, c, d] t) (hne : X ≠ G) (v0 v1 v2 v3 v4 v5 v6 v7 v8 : Value) : (((((((((w.setCell ⟨G, o, none⟩ v0).setCell ⟨G, o + 1, none⟩ v1).setCell ⟨G, o + 2, none⟩ v2).setCell ⟨G, o + 3, none⟩ v3).setCell ⟨G, o + 4, none⟩ v4).setCell ⟨G, o + 5, none⟩ v5).setCell ⟨G, o + 6, none⟩ v6).setCell ⟨G, o + 7, none⟩ v7).setCell ⟨G, o + 8, none⟩ v8).cell? ⟨X, 0, none⟩ = some a ∧ (((((((((w.setCell ⟨G, o, none⟩ v0).setCell ⟨G, o + 1, none⟩ v1).setCell ⟨G, o + 2, none⟩ v2).setCell ⟨G, o + 3, none⟩ v3).setCell ⟨G, o + 4, none⟩ v4).setCell ⟨G, o + 5, none⟩ v5).setCell ⟨G, o + 6, none⟩ v6).setCell ⟨G, o + 7, none⟩ v7).setCell ⟨G, o + 8, none⟩ v8).cell? ⟨X, 1, none⟩ = some b ∧ (((((((((w.setCell ⟨G, o, none⟩ v0).setCell ⟨G, o + 1, none⟩ v1).setCell ⟨G, o + 2, none⟩ v2).setCell ⟨G, o + 3, none⟩ v3).setCell ⟨G, o + 4, none⟩ v4).setCell ⟨G, o + 5, none⟩ v5).setCell ⟨G, o + 6, none⟩ v6).setCell ⟨G, o + 7, none⟩ v7).setCell ⟨G, o + 8, none⟩ v8).cell? ⟨X, 2, none⟩ = some c ∧ (((((((((w.setCell ⟨G, o, none⟩ v0).setCell ⟨G, o + 1, none⟩ v1).setCell ⟨G, o + 2, none⟩ v2).setCell ⟨G, o + 3, none⟩ v3).setCell ⟨G, o + 4, none⟩ v4).setCell ⟨G, o + 5, none⟩ v5).setCell ⟨G, o + 6, none⟩ v6).setCell ⟨G, o + 7, none⟩ v7).setCell ⟨G, o + 8, none⟩ v8).cell? ⟨X, 3, none⟩ = some d :=
  blk4 (((((((((h.other hne _).other hne _).other hne _).other hne _).other hne _).other hne _).other hne _).other hne _).other hne _)
theorem row9 {w : World} {G : Nat} {L : List It} {rest : List Value} {k : Nat} (h : RowIs w G L rest) (hk : k < L.length) : ∃ v0 v1 v2 v3 v4 v5 v6 v7 v8 : Value, w.cell? ⟨G, k * 9, none⟩ = some v0 ∧ w.frozen? ⟨G, k * 9, none⟩ = false ∧ w.cell? ⟨G, k * 9 + 1, none⟩ = some v1 ∧ w.frozen? ⟨G, k * 9 + 1, none⟩ = false ∧ w.cell? ⟨G, k * 9 + 2, none⟩ = some v2 ∧ w.frozen? ⟨G, k * 9 + 2, none⟩ = false ∧ w.cell? ⟨G, k * 9 + 3, none⟩ = some v3 ∧ w.frozen? ⟨G, k * 9 + 3, none⟩ = false ∧ w.cell? ⟨G, k * 9 + 4, none⟩ = some v4 ∧ w.frozen? ⟨G, k * 9 + 4, none⟩ = false ∧ w.cell? ⟨G, k * 9 + 5, none⟩ = some v5 ∧ w.frozen? ⟨G, k * 9 + 5, none⟩ = false ∧ w.cell? ⟨G, k * 9 + 6, none⟩ = some v6 ∧ w.frozen? ⟨G, k * 9 + 6, none⟩ = false ∧ w.cell? ⟨G, k * 9 + 7, none⟩ = some v7 ∧ w.frozen? ⟨G, k * 9 + 7, none⟩ = false ∧ w.cell? ⟨G, k * 9 + 8, none⟩ = some v8 ∧ w.frozen? ⟨G, k * 9 + 8, none⟩ = false :=
  ⟨_, _, _, _, _, _, _, _, _, h.range hk 0 _ rfl, Blk.f h _, h.range hk 1 _ rfl, Blk.f h _, h.range hk 2 _ rfl, Blk.f h _, h.range hk 3 _ rfl, Blk.f h _, h.range hk 4 _ rfl, Blk.f h _, h.range hk 5 _ rfl, Blk.f h _, h.range hk 6 _ rfl, Blk.f h _, h.range hk 7 _ rfl, Blk.f h _, h.range hk 8 _ rfl, Blk.f h _⟩
theorem below_drewN (w : World) (n : Nat) : Below w.heap.size w (w.drewN n) := ⟨rfl, rfl, rfl, Nat.le_refl _, fun _ _ => rfl⟩

theorem wpList_append_mt (w : World) {ops : Array Oper} {rest : List Oper} {o : Oper} {a : Act} {Q : Exit → Act → World → Prop} (hg : o.guard = none) (s x : Operand)
    (ho : o.op = Op.call { callee := Callee.builtin Builtin.append, args := #[s, x], argTypes := #[24, 24] }) (B : Nat) (v : Value) (out : List Mt) (m : Mt) (X c : Nat) (hs : a.eval s = v) (hx : a.eval x = .slice (some ⟨X, 0, none⟩) 1 c)
    (hown : w.ownsRow B 36 3 v out.length (out.flatMap mtCells)) (hu : w.rangeAt X 0 (mtCells m)) (hl : out.length ≤ 1000000000) (hbase : B ≤ w.heap.size)
    (h : ∀ v' w', w'.ownsRow B 36 3 v' (out ++ [m]).length ((out ++ [m]).flatMap mtCells) → w.grownBy w' v.ownBlock → (v'.ownBlock = v.ownBlock ∨ v'.ownBlock = some w.heap.size) → wpList Try.prog ops Q rest (a.put o.dst v') w') : wpList Try.prog ops Q (o :: rest) a w := by
  refine wpList_plain hg fun K hK => ?_
  obtain ⟨v', w', hrun, r1, r2, r3⟩ := append_mt w B o.type v out m X c hown hu hl hbase
  unfold Oper.wp
  simp [execOp, ho, resolve, invoke, builtin, hs, hx, hrun, Result.andThen]
  exact hK _ _ (h v' w' r1 r2 r3)
theorem wpList_append_it (w : World) {ops : Array Oper} {rest : List Oper} {o : Oper} {a : Act} {Q : Exit → Act → World → Prop} (hg : o.guard = none) (s x : Operand)
    (ho : o.op = Op.call { callee := Callee.builtin Builtin.append, args := #[s, x], argTypes := #[44, 44] }) (B : Nat) (v : Value) (out : List It) (m : It) (X c : Nat) (hs : a.eval s = v) (hx : a.eval x = .slice (some ⟨X, 0, none⟩) 1 c)
    (hown : w.ownsRow B 49 9 v out.length (out.flatMap itCells)) (hu : w.rangeAt X 0 (itCells m)) (hl : out.length ≤ 1000000) (hbase : B ≤ w.heap.size)
    (h : ∀ v' w', w'.ownsRow B 49 9 v' (out ++ [m]).length ((out ++ [m]).flatMap itCells) → w.grownBy w' v.ownBlock → (v'.ownBlock = v.ownBlock ∨ v'.ownBlock = some w.heap.size) → wpList Try.prog ops Q rest (a.put o.dst v') w') : wpList Try.prog ops Q (o :: rest) a w := by
  refine wpList_plain hg fun K hK => ?_
  obtain ⟨v', w', hrun, r1, r2, r3⟩ := append_it w B o.type v out m X c hown hu hl hbase
  unfold Oper.wp
  simp [execOp, ho, resolve, invoke, builtin, hs, hx, hrun, Result.andThen]
  exact hK _ _ (h v' w' r1 r2 r3)

theorem Fill.sorted {w wr : World} {l : List Sg} {L : List It} (h : Fill w l l.length L wr) (hn : l.length ≤ 20000) :
    Calls Try.prog 19 #[.slice (some ⟨w.heap.size, 0, none⟩) l.length l.length, .func (.func 20) #[] #[]] wr
      (fun e w2 => e = .returned (.tuple #[]) ∧ ∃ its : List It, its.Perm (items l) ∧ (∀ i j (_ : i < j) (hj : j < its.length), its[i].xl ≤ its[j].xl) ∧ its.length = l.length ∧ St w its w.heap.size (.slice none 0 0) (.slice none 0 0) (actP its 0) (outP its 0) w2) := by
  have hL : L = items l := by
    have := h.tk
    rw [List.take_of_length_le (by rw [h.len]; exact Nat.le_refl _), List.take_of_length_le (by rw [items_length]; exact Nat.le_refl _)] at this
    exact this
  subst hL
  have hown : wr.ownsRow w.heap.size 49 9 (.slice (some ⟨w.heap.size, 0, none⟩) (items l).length (items l).length) (items l).length ((items l).flatMap itCells) :=
    row_own (rest := []) h.row (Nat.le_refl _) (Nat.le_refl _) (by rw [items_length]; unfold maxLen; omega) (by simp)
  have hs := sortIt_any wr w.heap.size _ (items l) (fun a ha => by have := items_ix a ha; omega) (by rw [items_length]; omega) hown
  rw [show (Value.slice (some ⟨w.heap.size, 0, none⟩) l.length l.length) = .slice (some ⟨w.heap.size, 0, none⟩) (items l).length (items l).length by rw [items_length]]
  refine hs.mono ?_
  rintro e w2 ⟨rfl, its, hperm, hsrt, hown2, hg⟩
  have hlen : its.length = (items l).length := hperm.length_eq
  rw [← hlen] at hown2
  obtain ⟨rest, hr, h2, _, _, h5⟩ := own_row hown2
  have : rest = [] := List.eq_nil_of_length_eq_zero (by omega)
  subst this
  have hlt : w.heap.size < wr.heap.size := by have := h.row; unfold RowIs Blk at this; exact (Array.getElem?_eq_some_iff.1 this).1
  refine ⟨rfl, its, hperm, hsrt, by rw [hlen, items_length], ⟨hr, World.ownsRow_nil _ _ _ _, World.ownsRow_nil _ _ _ _, (fun e => by cases e), (fun e => by cases e), .inl rfl, h.bl.grown hg h.bl.size (fun k hk => by cases hk; exact Nat.le_refl _), (fun b e => by cases e), (fun b e => by cases e), ⟨Nat.le_refl _, Nat.lt_of_lt_of_le hlt hg.size⟩⟩⟩

/-- The deletion, at what stands between the rounds. -/
theorem St.delete {w wr : World} {its : List It} {G : Nat} {va vo : Value} {act : List It} {out : List Mt} {A : Nat} {a : It} (h : St w its G va vo act out wr) (h1 : Own1 wr A a va vo) (hn : act.length ≤ 1000000) :
    Calls Try.prog 23 #[va, .func (.func 24) #[] #[.pointer (some ⟨A, 0, none⟩)]] wr
      (fun e w2 => ∃ p c, e = .returned (.slice p (act.filter (keeps a)).length c) ∧ St w its G (.slice p (act.filter (keeps a)).length c) vo (act.filter (keeps a)) out w2 ∧ Own1 w2 A a (.slice p (act.filter (keeps a)).length c) vo) := by
  refine (delete_any a A w.heap.size va act wr h.ia (h1.b.c 5 rfl) h1.b.lt h1.na hn).mono ?_
  rintro e w2 ⟨v', rfl, hown, hg, he⟩
  have hst := h.act hown hg (.inl he)
  have ho := h1.act hg (.inl he)
  rcases own_form hown with ⟨p, c, rfl, _⟩ | ⟨g, cap, rfl, _⟩
  · exact ⟨p, c, rfl, hst, ho⟩
  · exact ⟨_, cap, rfl, hst, ho⟩

theorem mt_range (w : World) (m : Mt) : (w.alloc (.cells (mtCells m).toArray 36)).rangeAt w.heap.size 0 (mtCells m) := by
  intro j v hj
  rw [Nat.zero_add]
  exact (blk_new w (mtCells m) 36).c j hj
theorem it_range {w : World} {A : Nat} {a : It} (h : Blk w A (itCells a) 49) : w.rangeAt A 0 (itCells a) := by
  intro j v hj
  rw [Nat.zero_add]
  exact h.c j hj
theorem take_flat {f : It → List Mt} {K : List It} {j : Nat} (h : j < K.length) : (K.take (j + 1)).flatMap f = (K.take j).flatMap f ++ f K[j] := by
  rw [List.take_add_one, List.getElem?_eq_getElem h, List.flatMap_append]
  simp
theorem hits_bound {a : It} {its K : List It} {t jn : Nat} (hi : its.length ≤ 20000) (hK : K.length ≤ 20000) (ht : t ≤ its.length) : (outP its t ++ (K.take jn).flatMap (hitM a)).length ≤ 1000000000 := by
  have h1 := out_length its t ht
  have h2 : t * t ≤ 20000 * 20000 := Nat.mul_le_mul (by omega) (by omega)
  have h3 : ∀ L : List It, (L.flatMap (hitM a)).length ≤ L.length := by
    intro L
    induction L with
    | nil => simp
    | cons b L ih2 => rw [List.flatMap_cons, List.length_append, List.length_cons]; have := hit_len a b; omega
  have h4 := h3 (K.take jn)
  rw [List.length_take] at h4
  rw [List.length_append]
  omega

/-- The end: the meetings sorted. -/
theorem St.fin {w wr : World} {l : List Sg} {its : List It} {G : Nat} {va vo : Value} {act : List It} (h : St w its G va vo act (outP its its.length) wr) (hp : its.Perm (items l)) (hs : ∀ i j (hi : i < j) (hj : j < its.length), its[i].xl ≤ its[j].xl) (hn : l.length ≤ 20000) :
    Calls Try.prog 26 #[vo, .func (.func 27) #[] #[]] wr (fun e w2 => e = .returned (.tuple #[]) ∧ AllOK w l (.returned (.tuple #[vo, .int .i64 0])) w2) := by
  have hlen : its.length = l.length := by rw [hp.length_eq, items_length]
  have hix : ∀ a ∈ its, a.ix ≤ 1000000 := fun a ha => by have := items_ix a (hp.subset ha); omega
  have hb : (outP its its.length).length ≤ 1000000000 := by
    have h1 := out_length its its.length (Nat.le_refl _)
    have h2 : its.length * its.length ≤ 20000 * 20000 := Nat.mul_le_mul (by omega) (by omega)
    omega
  refine (sortMt_any wr w.heap.size vo (outP its its.length) (fun m hm => ?_) hb h.io).mono ?_
  · obtain ⟨a, ha, b, hb, h1, h2⟩ := out_ix its its.length (Nat.le_refl _) m hm
    have := hix a (List.mem_of_mem_take ha)
    have := hix b (List.mem_of_mem_take hb)
    omega
  · rintro e w2 ⟨rfl, out', hperm, hsrt, hown, hg⟩
    have he := sweep_all hp hs hperm hsrt
    subst he
    exact ⟨rfl, vo, rfl, hown, below_grownB h.bl hg (fun b e => (h.oB b e).1)⟩

set_option maxHeartbeats 8000000 in
theorem all_any (l : List Sg) (v : Value) (w : World) (hv : SegsAt w v l) (hn : l.length ≤ 20000) : Calls Try.prog 10 #[v] w (AllOK w l) := by
  obtain ⟨p, c, rfl, hp⟩ := hv
  have HP := Lib.hid hp
  have HN := Lib.hid hn
  obtain ⟨w1, hmk, hown1, hg1⟩ := make_row w l.length (by omega)
  have hf0 : Fill w l 0 (List.replicate l.length zIt) w1 := by
    obtain ⟨rest, h1, _, _, _, h5⟩ := own_row (l := List.replicate l.length zIt) (cap := l.length) (base := w.heap.size) (w := w1) (by rw [List.length_replicate]; exact hown1)
    rw [List.length_replicate] at h5
    have : rest = [] := List.eq_nil_of_length_eq_zero (by omega)
    subst this
    exact ⟨List.length_replicate, by simp, h1, (Below.refl _ _).grown hg1 (Nat.le_refl _) (fun k hk => by cases hk)⟩
  have HF0 := Lib.hid hf0
  clear hp hown1 hg1 hf0
  have hcm : decide ((l.length : Int) > 20000) = false := by simp; omega
  have hcm2 : decide ((20000 : Int) < (l.length : Int)) = false := by simp; omega
  clear hn
  go_enter Try.func10, Try.ntmps10
  go_wp2_with fail
  clear hmk
  go_loopg [22] l.length (fun c' i wr => ∃ k : Nat, ∃ L : List It, k + c' = l.length ∧ i = .int .i64 k ∧ Fill w l k L wr)
  case atStart => exact ⟨0, _, by omega, rfl, HF0.out⟩
  case round =>
    obtain ⟨k, L, hk, rfl, hF⟩ := hrel
    by_cases hlt : k < l.length
    · have hki : decide ((k : Int) < (l.length : Int)) = true := by simp; omega
      have HK := Lib.hid hk
      have HF := Lib.hid hF
      have hp := HP.out
      rcases hp with hp | ⟨g, o, rfl, hgl, hra⟩
      · rw [hp] at hlt; simp at hlt
      have hra2 := range_old (hra k hlt) hgl hF.bl
      have HRA := Lib.hid hra2
      clear hra hra2 hk hF
      generalize hsk : l[k] = s at *
      obtain ⟨⟨ax, ay⟩, ⟨bx, by_⟩⟩ := s
      unfold sgCells at HRA
      have HSK := Lib.hid hsk
      clear hsk
      go_upto_region 7 with (first | ((with_reducible refine at_load34 _ rfl ?_); refine wpList_load_mid rfl 34 _ rfl g (o + k * 4) rfl _ _ HRA.out Try.underlying34 rfl info34 ?_))
      have hX := blk_new wr [.int .i64 ax, .int .i64 ay, .int .i64 bx, .int .i64 by_] 34
      have hF5 := HF.out.below (below_new wr (.cells #[.int .i64 ax, .int .i64 ay, .int .i64 bx, .int .i64 by_] 34))
      have HNE : Hid (wr.heap.size ≠ w.heap.size) := Lib.hid (by have := (HF.out.there hlt).2; omega)
      generalize wr.alloc _ = w5 at *
      generalize wr.heap.size = X at *
      have HX := Lib.hid hX
      have HF5 := Lib.hid hF5
      have HT := Lib.hid (hF5.there hlt)
      have HO1 : Hid (∀ w : World, Calls Try.prog 18 #[.int .i64 ax, .int .i64 bx] w (fun e w' => e = .returned (.agg #[.int .i64 (min ax bx), .int .i64 (max ax bx)]) ∧ Below w.heap.size w w')) := Lib.hid (of_any ax bx)
      have HO2 : Hid (∀ w : World, Calls Try.prog 18 #[.int .i64 ay, .int .i64 by_] w (fun e w' => e = .returned (.agg #[.int .i64 (min ay by_), .int .i64 (max ay by_)]) ∧ Below w.heap.size w w')) := Lib.hid (of_any ay by_)
      have hc0 := blk4 hX
      have HXdd := Lib.hid (show Blk w5.drew X _ _ from hX)
      have HXd := Lib.hid (Blk.below hX (below_drewN w5 1))
      clear hX hF5
      go_region_held3 (fun w' => w'.cell? ⟨X, 0, none⟩ = some (.int .i64 ax) ∧ w'.cell? ⟨X, 1, none⟩ = some (.int .i64 ay) ∧ w'.cell? ⟨X, 2, none⟩ = some (.int .i64 bx) ∧ w'.cell? ⟨X, 3, none⟩ = some (.int .i64 by_)) (first | with_reducible exact blk4 HXdd.out | with_reducible exact hc0 | with_reducible exact blk4 HXd.out | with_reducible exact blk4 HXa.out | with_reducible exact blk4 HXb.out | with_reducible exact blk4_chain HXb.out HNE.out _ _ _ _ _ _ _ _ _)
        (first
          | (go_at_call 18; (with_reducible refine (HO1.out _).mono ?_); rintro en wa ⟨rfl, hb⟩; have hba : Below w5.heap.size w5 wa := (by first | exact hb | exact (below_drewN w5 1).trans hb); have HBa := Lib.hid hba; have HXa := Lib.hid (Blk.below HX.out hba); clear hb hba)
          | (go_at_call 18; (with_reducible refine (HO2.out _).mono ?_); rintro en wb ⟨rfl, hb⟩; have hbb := HBa.out.trans (hb.mono HBa.out.size); have HBb := Lib.hid hbb; have HXb := Lib.hid (Blk.below HX.out hbb); obtain ⟨z0, z1, z2, z3, z4, z5, z6, z7, z8, cz0, fz0, cz1, fz1, cz2, fz2, cz3, fz3, cz4, fz4, cz5, fz5, cz6, fz6, cz7, fz7, cz8, fz8⟩ := row9 (HF5.out.below hbb).row (by rw [HF5.out.len]; exact hlt); clear hb hbb))
      have hFb := (HF5.out.below HBb.out).set hlt
      rw [HSK.out] at hFb
      have HFB := Lib.hid hFb
      clear hFb cz0 fz0 cz1 fz1 cz2 fz2 cz3 fz3 cz4 fz4 cz5 fz5 cz6 fz6 cz7 fz7 cz8 fz8
      go_wp2_with fail
      have hk1 := HK.out
      go_roundg (gk - 1)
      case measure => omega
      case rel => exact ⟨k + 1, _, by omega, by have := HN.out; congr 1; unfold wrap64; omega, HFB.out⟩
    · have hki : decide ((k : Int) < (l.length : Int)) = false := by simp; omega
      obtain rfl : k = l.length := by omega
      have HSO := Lib.hid (hF.sorted HN.out)
      clear hF hk HF0 HP
      go_upto_region 10 with (go_at_call 19; refine HSO.out.mono ?_; rintro en w2 ⟨rfl, its, hperm, hsrt, hlen, hst⟩; have HPS := Lib.hid (And.intro hperm (And.intro hsrt hlen)); have HST := Lib.hid hst; clear hperm hsrt hst hlen)
      clear HSO
      go_upto_region 13 with fail
      go_loopg [7, 8, 52] l.length (fun c' vo va i wr => ∃ t : Nat, t + c' = l.length ∧ i = .int .i64 t ∧ St w its w.heap.size va vo (actP its t) (outP its t) wr)
      case atStart => exact ⟨0, by omega, rfl, HST.out⟩
      case round =>
        obtain ⟨t, ht, rfl, hst⟩ := hrel
        clear HST
        by_cases htl : t < l.length
        · have hki : decide ((t : Int) < (l.length : Int)) = true := by simp; omega
          have HT := Lib.hid ht
          have hti : t < its.length := by rw [HPS.out.2.2]; exact htl
          have HRA := Lib.hid (hst.ii.range hti)
          have HSTEP := Lib.hid (And.intro (actP_step hti) (outP_step hti))
          have HAL := Lib.hid (actP_length its t)
          have HSt := Lib.hid hst
          clear ht hst
          generalize its[t] = a at *
          have HRB := Lib.hid HRA.out
          unfold itCells at HRB
          go_upto_region 15 with (first | ((with_reducible refine at_load49 _ rfl ?_); refine wpList_load_mid rfl 49 _ rfl w.heap.size (t * 9) rfl _ _ HRB.out Try.underlying49 rfl info49 ?_))
          have ho := Own1.new HSt.out a
          have hs5 := HSt.out.below (below_new wr (.cells (itCells a).toArray 49))
          have hw5 : wr.alloc (.cells #[.int .i64 a.ix, .int .i64 a.s.1.1, .int .i64 a.s.1.2, .int .i64 a.s.2.1, .int .i64 a.s.2.2, .int .i64 a.xl, .int .i64 a.xh, .int .i64 a.yl, .int .i64 a.yh] 49) = wr.alloc (.cells (itCells a).toArray 49) := rfl
          rw [hw5]
          clear hw5
          generalize wr.alloc _ = w5 at *
          generalize wr.heap.size = A at *
          generalize hK : (actP its t).filter (keeps a) = K at *
          have HDE := Lib.hid (hs5.delete ho (by have := HAL.out; have := HN.out; omega))
          rw [hK] at HDE
          have HKL : Hid (K.length ≤ 20000) := Lib.hid (by rw [← hK]; have := List.length_filter_le (keeps a) (actP its t); have := HAL.out; have := HN.out; omega)
          clear ho hs5 HRA HRB HSt hK
          go_upto_region 17 with (go_at_call 23; refine HDE.out.mono ?_; rintro en w6 ⟨p6, c6, rfl, hs6, ho6⟩; have HS6 := Lib.hid hs6; have HO6 := Lib.hid ho6; clear hs6 ho6)
          clear HDE
          have hkl := HKL.out
          go_loopg [7, 61] K.length (fun c' vo j wr => ∃ jn : Nat, jn + c' = K.length ∧ j = .int .i64 jn ∧ St w its w.heap.size (.slice p6 K.length c6) vo K (outP its t ++ (K.take jn).flatMap (hitM a)) wr ∧ Own1 wr A a (.slice p6 K.length c6) vo)
          case atStart => exact ⟨0, by omega, rfl, by simpa using HS6.out, HO6.out⟩
          case round =>
            obtain ⟨jn, hj, rfl, hs, ho⟩ := hrel
            by_cases hjl : jn < K.length
            · have hkj : decide ((jn : Int) < (K.length : Int)) = true := by simp; omega
              have HB9 := Lib.hid (hits_bound (a := a) (its := its) (t := t) (K := K) (jn := jn) (by have := HPS.out.2.2; have := HN.out; omega) HKL.out (by have := HPS.out.2.2; omega))
              have HEQ0 := Lib.hid (congrArg (outP its t ++ ·) (take_flat (f := hitM a) hjl))
              obtain ⟨g7, c7, e7, hra⟩ := row_range hs.ia hjl
              obtain ⟨rfl, rfl⟩ : p6 = some ⟨g7, 0, none⟩ ∧ c6 = c7 := by cases e7; exact ⟨rfl, rfl⟩
              have HRA := Lib.hid hra
              have HS := Lib.hid hs
              have HO := Lib.hid ho
              have HJ := Lib.hid hj
              clear e7 hra hs ho hj
              simp only [← List.append_assoc] at HEQ0
              generalize outP its t ++ (K.take jn).flatMap (hitM a) = O at HS HEQ0 HB9
              generalize K[jn] = b at HRA HEQ0
              have HRB := Lib.hid HRA.out
              unfold itCells at HRB
              go_upto_region 19 with (first | ((with_reducible refine at_load49 _ rfl ?_); refine wpList_load_mid rfl 49 _ rfl g7 (jn * 9) rfl _ _ HRB.out Try.underlying49 rfl info49 ?_))
              have hw7 : wr.alloc (.cells #[.int .i64 b.ix, .int .i64 b.s.1.1, .int .i64 b.s.1.2, .int .i64 b.s.2.1, .int .i64 b.s.2.2, .int .i64 b.xl, .int .i64 b.xh, .int .i64 b.yl, .int .i64 b.yh] 49) = wr.alloc (.cells (itCells b).toArray 49) := rfl
              rw [hw7]
              clear hw7
              have hx := blk_new wr (itCells b) 49
              have hs7 := HS.out.below (below_new wr (.cells (itCells b).toArray 49))
              have ho7 := HO.out.below (below_new wr (.cells (itCells b).toArray 49))
              generalize wr.alloc _ = w7 at *
              generalize wr.heap.size = X at *
              have hA7 := ho7.b.c 7 rfl; have hA8 := ho7.b.c 8 rfl; have hX7 := hx.c 7 rfl; have hX8 := hx.c 8 rfl
              have HX7 := Lib.hid hx; have HS7 := Lib.hid hs7; have HO7 := Lib.hid ho7
              clear hx hs7 ho7 HRA HRB HS HO
              have hbn := bounds_any a.yl a.yh b.yl b.yh w7
              rw [show (decide (a.yl ≤ b.yh) && decide (b.yl ≤ a.yh)) = near2 a b from rfl] at hbn
              have hj1 := HJ.out
              have hn1 := HN.out
              have hk1 := HKL.out
              cases hnr : near2 a b with
              | false =>
                rw [hnr] at hbn
                unfold BoolB at hbn
                have HBN := Lib.hid hbn
                have HH : Hid (hitM a b = []) := Lib.hid (by unfold hitM; rw [hnr]; simp)
                clear hbn hnr
                go_wp2_with (first | (go_at_call 25; refine HBN.out.mono ?_; rintro en w8 ⟨rfl, hb⟩; have HS8 := Lib.hid (HS7.out.below hb); have HO8 := Lib.hid (HO7.out.below hb); clear hb))
                go_roundg (gk - 1)
                case measure => omega
                case rel => exact ⟨jn + 1, by omega, by congr 1, by rw [HEQ0.out, HH.out, List.append_nil]; exact HS8.out, HO8.out⟩
              | true =>
                rw [hnr] at hbn
                unfold BoolB at hbn
                have HBN := Lib.hid hbn
                have hmeet := meets_any a.s b.s
                unfold IntB sg at hmeet
                have HM := Lib.hid hmeet
                clear hbn hmeet
                by_cases hm0 : meets a.s b.s = 0
                · have HH : Hid (hitM a b = []) := Lib.hid (by unfold hitM; rw [if_neg (by simp [hm0])])
                  rw [hm0] at HM
                  clear hm0 hnr
                  go_upto_region 20 with (first | (go_at_call 25; refine HBN.out.mono ?_; rintro en w8 ⟨rfl, hb⟩; have HS8 := Lib.hid (HS7.out.below hb); have HO8 := Lib.hid (HO7.out.below hb); have HX8 := Lib.hid (Blk.below HX7.out hb); clear hb))
                  clear hA7 hA8 hX7 hX8
                  have hA1 := HO8.out.b.c 1 rfl; have hA2 := HO8.out.b.c 2 rfl; have hA3 := HO8.out.b.c 3 rfl; have hA4 := HO8.out.b.c 4 rfl
                  have hX1 := HX8.out.c 1 rfl; have hX2 := HX8.out.c 2 rfl; have hX3 := HX8.out.c 3 rfl; have hX4 := HX8.out.c 4 rfl
                  go_wp2_with (first | (go_at_call 13; refine (HM.out _).mono ?_; rintro en w9 ⟨rfl, hb⟩; have HS9 := Lib.hid (HS8.out.below hb); have HO9 := Lib.hid (HO8.out.below hb); clear hb))
                  go_roundg (gk - 1)
                  case measure => omega
                  case rel => exact ⟨jn + 1, by omega, by congr 1, by rw [HEQ0.out, HH.out, List.append_nil]; exact HS9.out, HO9.out⟩
                · have HH : Hid (hitM a b = [(min a.ix b.ix, max a.ix b.ix, meets a.s b.s)]) := Lib.hid (by unfold hitM; rw [if_pos ⟨hnr, hm0⟩])
                  generalize meets a.s b.s = M at *
                  have hm1 : (M == 0) = false := by simpa using hm0
                  have hm2 : decide (M = 0) = false := by simpa using hm0
                  clear hm0 hnr
                  go_upto_region 20 with (first | (go_at_call 25; refine HBN.out.mono ?_; rintro en w8 ⟨rfl, hb⟩; have HS8 := Lib.hid (HS7.out.below hb); have HO8 := Lib.hid (HO7.out.below hb); have HX8 := Lib.hid (Blk.below HX7.out hb); clear hb))
                  clear hA7 hA8 hX7 hX8
                  have hA1 := HO8.out.b.c 1 rfl; have hA2 := HO8.out.b.c 2 rfl; have hA3 := HO8.out.b.c 3 rfl; have hA4 := HO8.out.b.c 4 rfl
                  have hX1 := HX8.out.c 1 rfl; have hX2 := HX8.out.c 2 rfl; have hX3 := HX8.out.c 3 rfl; have hX4 := HX8.out.c 4 rfl
                  go_upto_region 22 with (first | (go_at_call 13; refine (HM.out _).mono ?_; rintro en w9 ⟨rfl, hb⟩; have HS9 := Lib.hid (HS8.out.below hb); have HO9 := Lib.hid (HO8.out.below hb); have HX9 := Lib.hid (Blk.below HX8.out hb); clear hb))
                  clear hA1 hA2 hA3 hA4 hX1 hX2 hX3 hX4
                  have hA0 := HO9.out.b.c 0 rfl
                  have hX0 := HX9.out.c 0 rfl
                  have HB := Lib.hid (HS9.out.bl.size)
                  have HMN : Hid (min (a.ix : Int) (b.ix : Int) = ((min a.ix b.ix : Nat) : Int) ∧ max (a.ix : Int) (b.ix : Int) = ((max a.ix b.ix : Nat) : Int)) := Lib.hid (by omega)
                  go_wp2_with (at_builtin; rw [HMN.out.1, HMN.out.2]; refine wpList_append_mt _ rfl (.tmp 78) (.tmp 91) rfl w.heap.size u7 O (min a.ix b.ix, max a.ix b.ix, M) w9.heap.size 1 rfl rfl (HS9.out.below (below_new w9 _)).io (mt_range w9 _) HB9.out (Nat.le_trans HB.out (by simp)) ?_; intro v2 w10 hown hg he; have hs10 := (HS9.out.below (below_new w9 (.cells (mtCells (min a.ix b.ix, max a.ix b.ix, M)).toArray 36))).out hown hg he; have ho10 := (HO9.out.below (below_new w9 (.cells (mtCells (min a.ix b.ix, max a.ix b.ix, M)).toArray 36))).out hg he; have HS10 := Lib.hid hs10; have HO10 := Lib.hid ho10; clear hown hg he hs10 ho10)
                  go_roundg (gk - 1)
                  case measure => omega
                  case rel => exact ⟨jn + 1, by omega, by congr 1, by rw [HEQ0.out, HH.out]; exact HS10.out, HO10.out⟩
            · have hkj : decide ((jn : Int) < (K.length : Int)) = false := by simp; omega
              obtain rfl : jn = K.length := by omega
              rw [List.take_length] at hs
              have HS := Lib.hid hs
              have HRA := Lib.hid (it_range ho.b)
              have HRB := Lib.hid HRA.out
              unfold itCells at HRB
              clear hs ho hj HS6 HO6
              have HB := Lib.hid (HS.out.bl.size)
              have hn1 := HN.out
              have ht1 := HT.out
              go_wp2_with (first | ((with_reducible refine at_load49 _ rfl ?_); refine wpList_load_mid rfl 49 _ rfl A 0 rfl _ _ HRB.out Try.underlying49 rfl info49 ?_) | (at_builtin; refine wpList_append_it _ rfl (.tmp 94) (.tmp 96) rfl w.heap.size (.slice p6 K.length c6) K a wr.heap.size 1 rfl rfl (HS.out.below (below_new wr _)).ia (it_range (blk_new wr (itCells a) 49)) (by omega) (Nat.le_trans HB.out (by simp)) ?_; intro v2 w10 hown hg he; have hs10 := (HS.out.below (below_new wr (.cells (itCells a).toArray 49))).act hown hg he; have HS10 := Lib.hid hs10; clear hown hg he hs10))
              go_roundg (l.length - (t + 1))
              case measure => omega
              case rel => exact ⟨t + 1, by omega, by congr 1, by rw [HSTEP.out.1, HSTEP.out.2]; exact HS10.out⟩
        · have hki : decide ((t : Int) < (l.length : Int)) = false := by simp; omega
          obtain rfl : t = l.length := by omega
          have HFI := Lib.hid ((show St w its w.heap.size u8 u7 (actP its l.length) (outP its its.length) wr by rw [HPS.out.2.2]; exact hst).fin HPS.out.1 HPS.out.2.1 HN.out)
          clear hst
          go_wp2_with (go_at_call 26; refine HFI.out.mono ?_; rintro en w3 ⟨rfl, hfin⟩; have HFF := Lib.hid hfin; clear hfin)
          exact bodyPost_ret (v := .tuple #[u7, .int .i64 0]) (by simp [results, Try.results10, go_sem]) rfl HFF.out

end Go.Proofs.Ytdpbihbcggpobaa
