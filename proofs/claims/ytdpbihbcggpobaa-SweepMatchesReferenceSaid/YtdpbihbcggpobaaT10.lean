/- Plain: the sweep's meetings, once sorted, are the list of all pairs' meetings. -/
import Derived.Test.YtdpbihbcggpobaaPairs
namespace Go.Proofs.Ytdpbihbcggpobaa

theorem act_sub (l : List It) : ∀ t, (actP l t).Sublist (l.take t)
  | 0 => by simp [actP]
  | t + 1 => by
    by_cases h : t < l.length
    · rw [actP_step h, List.take_add_one, List.getElem?_eq_getElem h]
      exact ((List.filter_sublist).trans (act_sub l t)).append (List.Sublist.refl _)
    · have e : l[t]? = none := List.getElem?_eq_none (by omega)
      show (match l[t]? with | some a => _ | none => actP l t).Sublist _
      rw [e]
      have h2 := act_sub l t
      rw [List.take_of_length_le (by omega)] at h2 ⊢
      exact h2
theorem mem_hit {a b : It} {m : Mt} (h : m ∈ hitM a b) : m.1 = min a.ix b.ix ∧ m.2.1 = max a.ix b.ix := by
  unfold hitM at h
  split at h
  · rw [List.mem_singleton.1 h]; exact ⟨rfl, rfl⟩
  · cases h
theorem hit_len (a b : It) : (hitM a b).length ≤ 1 := by unfold hitM; split <;> simp
theorem hit_pair (a b : It) (R : Mt → Mt → Prop) : (hitM a b).Pairwise R := by unfold hitM; split <;> simp
theorem out_ix (l : List It) : ∀ t, t ≤ l.length → ∀ m ∈ outP l t, ∃ a ∈ l.take t, ∃ b ∈ l.take t, m.1 = min a.ix b.ix ∧ m.2.1 = max a.ix b.ix
  | 0, _, m, hm => by simp [outP] at hm
  | t + 1, ht, m, hm => by
    have h : t < l.length := by omega
    have hsub : ∀ x ∈ l.take t, x ∈ l.take (t + 1) := fun x hx => by
      rw [List.take_add_one]; exact List.mem_append.2 (.inl hx)
    rw [outP_step h, List.mem_append] at hm
    rcases hm with hm | hm
    · obtain ⟨a, ha, b, hb, h2⟩ := out_ix l t (by omega) m hm
      exact ⟨a, hsub a ha, b, hsub b hb, h2⟩
    · obtain ⟨b, hb, hm⟩ := List.mem_flatMap.1 hm
      refine ⟨l[t], ?_, b, hsub b ((act_sub l t).subset ((List.mem_filter.1 hb).1)), mem_hit hm⟩
      rw [List.take_add_one, List.getElem?_eq_getElem h]
      exact List.mem_append.2 (.inr (by simp))
theorem out_nodup (l : List It) (hl : l.Pairwise fun a b => a.ix ≠ b.ix) : ∀ t, t ≤ l.length → (outP l t).Nodup
  | 0, _ => by simp [outP]
  | t + 1, ht => by
    have h : t < l.length := by omega
    have hpre : ∀ x ∈ l.take t, x.ix ≠ l[t].ix := fun x hx => by
      obtain ⟨j, hj, e⟩ := List.getElem_of_mem hx
      rw [List.getElem_take] at e
      rw [← e]
      have hjt : j < t := by rw [List.length_take] at hj; omega
      exact (List.pairwise_iff_getElem.1 hl) j t (by omega) h hjt
    rw [outP_step h]
    have hK : ((actP l t).filter (keeps l[t])).Sublist (l.take t) := List.filter_sublist.trans (act_sub l t)
    generalize (actP l t).filter (keeps l[t]) = K at hK
    refine List.nodup_append.2 ⟨out_nodup l hl t (by omega), ?_, ?_⟩
    · refine pairwise_flatMap (fun b _ => hit_pair _ _ _) ?_
      have hp : K.Pairwise fun a b => a.ix ≠ b.ix := (hl.sublist (List.take_sublist t l)).sublist hK
      refine hp.imp_of_mem ?_
      intro b c hb hc hne x hx y hy e
      have h1 := mem_hit hx
      have h2 := mem_hit hy
      rw [e] at h1
      have := hpre b (hK.subset hb)
      have := hpre c (hK.subset hc)
      omega
    · intro x hx y hy e
      obtain ⟨b, hb, hm⟩ := List.mem_flatMap.1 hy
      obtain ⟨c, hc, d, hd, h2⟩ := out_ix l t (by omega) x hx
      have h1 := mem_hit hm
      rw [e] at h2
      have := hpre b (hK.subset hb)
      have := hpre c hc
      have := hpre d hd
      omega
theorem out_length (l : List It) : ∀ t, t ≤ l.length → (outP l t).length ≤ t * t
  | 0, _ => by simp [outP]
  | t + 1, ht => by
    have h : t < l.length := by omega
    rw [outP_step h, List.length_append]
    have ih := out_length l t (by omega)
    have hK : ((actP l t).filter (keeps l[t])).length ≤ t := Nat.le_trans (List.length_filter_le _ _) (actP_length l t)
    generalize (actP l t).filter (keeps l[t]) = K at hK
    have : (K.flatMap (hitM l[t])).length ≤ K.length := by
      clear hK
      induction K with
      | nil => simp
      | cons b K ih2 => rw [List.flatMap_cons, List.length_append, List.length_cons]; have := hit_len l[t] b; omega
    have e : (t + 1) * (t + 1) = t * t + t + t + 1 := by rw [Nat.add_mul, Nat.mul_add]; omega
    omega

theorem items_pair (l : List Sg) : (items l).Pairwise fun a b => a.ix ≠ b.ix := by
  rw [List.pairwise_iff_getElem]
  intro i j hi hj hij
  rw [items_length] at hi hj
  rw [items_at hi, items_at hj]
  show i ≠ j
  omega
theorem items_ix {l : List Sg} : ∀ a ∈ items l, a.ix < l.length := by
  intro a ha
  obtain ⟨i, hi, e⟩ := List.getElem_of_mem ha
  rw [items_length] at hi
  rw [← e, items_at hi]
  exact hi

/-- The law: whatever order the sweep took, what it found is sorted into the list of all pairs. -/
theorem sweep_all {l : List Sg} {its : List It} {out : List Mt} (hp : its.Perm (items l)) (hs : ∀ i j (hi : i < j) (hj : j < its.length), its[i].xl ≤ its[j].xl)
    (ho : out.Perm (outP its its.length)) (hso : ∀ i j (_ : i < j) (hj : j < out.length), ¬ Mlt out[j] out[i]) : out = allP (kindOf l) l.length l.length := by
  have hix : its.Pairwise fun a b => a.ix ≠ b.ix := (hp.pairwise_iff (fun h e => h e.symm)).2 (items_pair l)
  have hnd : out.Nodup := ho.nodup_iff.2 (out_nodup its hix _ (Nat.le_refl _))
  have hmem : ∀ m, m ∈ out ↔ m ∈ allP (kindOf l) l.length l.length := fun m => by rw [ho.mem_iff]; exact outP_pairs hp hs m
  refine eq_of_mlt ?_ (allP_pair _ _ _) hmem
  rw [List.pairwise_iff_getElem]
  intro i j hi hj hij
  have h1 := hso i j hij hj
  have hne : out[i] ≠ out[j] := (List.pairwise_iff_getElem.1 hnd) i j hi hj hij
  have m1 := (mem_allP _).1 ((hmem _).1 (List.getElem_mem hi))
  have m2 := (mem_allP _).1 ((hmem _).1 (List.getElem_mem hj))
  generalize out[i] = a at *
  generalize out[j] = b at *
  refine Classical.byContradiction fun hn => hne ?_
  unfold Mlt at h1 hn
  have e1 : a.1 = b.1 := by omega
  have e2 : a.2.1 = b.2.1 := by omega
  have e3 : a.2.2 = b.2.2 := by rw [m1.2.2.2.1, m2.2.2.2.1, e1, e2]
  exact Prod.ext e1 (Prod.ext e2 e3)

end Go.Proofs.Ytdpbihbcggpobaa
