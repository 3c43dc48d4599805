/- Law 25: PlanAgain: the plain part. -/
import Derived.Test.YtbcmoikpmmjlkaaPC
namespace Go.Proofs.Ytbcmoikpmmjlkaa
open Go Eng
set_option maxRecDepth 100000
theorem getD_map {α β : Type} [Inhabited α] [Inhabited β] (f : α → β) (l : List α) {i : Nat} (h : i < l.length) : (l.map f).getD i default = f (l.getD i default) := by
  simp [List.getD_eq_getElem?_getD, h]
theorem mayI_of_pairwise : ∀ {l : List Itm} {last : Int}, l.Pairwise (fun a b => a.seq < b.seq) → (∀ x ∈ l, last < x.seq ∧ ∀ m, m < x.seq → ¬ x.bad m) → mayI last l = true
  | [], _, _, _ => rfl
  | x :: l, last, hp, h => by
    rw [List.pairwise_cons] at hp
    obtain ⟨h1, h2⟩ := h x List.mem_cons_self
    unfold mayI
    rw [if_neg (h2 last h1)]
    exact mayI_of_pairwise hp.2 fun y hy => ⟨hp.1 y hy, (h y (List.mem_cons_of_mem _ hy)).2⟩
theorem MayP.fine {its : List Itm} (h : MayP its) {i : Nat} (hi : i < its.length) : ∀ m, m < (its.getD i default).seq → ¬ (its.getD i default).bad m := by
  intro m hm
  have h1 := h.key i hi
  have h2 := h.seq i hi
  have h3 := h.kind i hi
  have h4 := h.size i hi
  unfold Itm.bad
  omega
/-- Those that are kept, by themselves. -/
def subI (its : List Itm) (ks : List Nat) : List Itm := ks.map fun i => its.getD i default
theorem subI_length (its : List Itm) (ks : List Nat) : (subI its ks).length = ks.length := by simp [subI]
theorem subI_at (its : List Itm) (ks : List Nat) {j i : Nat} (h : ks[j]? = some i) : (subI its ks).getD j default = its.getD i default := by
  unfold subI
  rw [List.getD_eq_getElem?_getD, List.getElem?_map, h]; rfl
theorem subI_may {its : List Itm} (h : MayP its) {ks : List Nat} (hp : ks.Pairwise (· < ·)) (hl : ∀ i ∈ ks, i < its.length) : mayI 0 (subI its ks) = true := by
  refine mayI_of_pairwise ?_ ?_
  · unfold subI
    rw [List.pairwise_map]
    exact hp.imp_of_mem fun ha hb hab => h.up _ _ hab (hl _ hb)
  · intro x hx
    obtain ⟨i, hi, rfl⟩ := List.mem_map.1 hx
    exact ⟨(h.seq i (hl i hi)).1, h.fine (hl i hi)⟩
theorem sameK_sub {its : List Itm} {ks : List Nat} {a b i j : Nat} (ha : ks[a]? = some i) (hb : ks[b]? = some j) : sameK (subI its ks) a b = sameK its i j := by
  unfold sameK
  rw [subI_at its ks ha, subI_at its ks hb]
/-- What is seen is seen among those that are kept. -/
theorem seen_sub {its : List Itm} {at_ : List Int} {ks : List Nat} (hp : ks.Pairwise (· < ·)) (hl : ∀ i ∈ ks, i < its.length) {j i : Nat} (hj : ks[j]? = some i) (h : seenAt its at_ i = true) : seenAt (subI its ks) at_ j = true := by
  unfold seenAt at h ⊢
  rw [List.any_eq_true] at h ⊢
  obtain ⟨s, hs, h⟩ := h
  rw [Bool.and_eq_true, List.all_eq_true] at h
  refine ⟨s, hs, ?_⟩
  rw [Bool.and_eq_true, subI_at its ks hj, List.all_eq_true]
  refine ⟨h.1, fun b hb => ?_⟩
  have hb := List.mem_range.1 hb
  rw [subI_length] at hb
  have hbg := List.getElem?_eq_getElem hb
  rw [sameK_sub hj hbg, subI_at its ks hbg]
  have := h.2 ks[b] (List.mem_range.2 (hl _ (List.getElem_mem hb)))
  rw [← decide_eq_decide.2 (row_at hp hj hbg)]
  exact this
theorem kept_sub {its : List Itm} {at_ : List Int} {j i : Nat} (hj : (keptN its at_ its.length)[j]? = some i) : keptB (subI its (keptN its at_ its.length)) at_ j = true := by
  have hp := keptN_up (its := its) (at_ := at_) (n := its.length)
  have hl : ∀ i ∈ keptN its at_ its.length, i < its.length := fun i hi => (keptN_mem.1 hi).1
  have hk := (keptN_mem.1 (List.mem_of_getElem? hj)).2
  unfold keptB at hk
  rw [Bool.and_eq_true, List.any_eq_true] at hk
  obtain ⟨hs, a, ha, hk⟩ := hk
  have ha := List.mem_range.1 ha
  rw [Bool.and_eq_true, Bool.and_eq_true] at hk
  have hil := hl i (List.mem_of_getElem? hj)
  have haK : a ∈ keptN its at_ its.length := by
    refine keptN_mem.2 ⟨by omega, ?_⟩
    unfold keptB
    rw [Bool.and_eq_true, List.any_eq_true]
    refine ⟨hk.1.2, a, List.mem_range.2 (by omega), ?_⟩
    rw [Bool.and_eq_true, Bool.and_eq_true]
    exact ⟨⟨by unfold sameK; simp, hk.1.2⟩, hk.2⟩
  obtain ⟨b, hb⟩ := List.getElem?_of_mem haK
  unfold keptB
  rw [Bool.and_eq_true, List.any_eq_true]
  refine ⟨seen_sub hp hl hj hs, b, List.mem_range.2 ?_, ?_⟩
  · rcases Nat.lt_or_ge j b with h | h
    · have := (row_at hp hj hb).2 h; omega
    · omega
  · rw [Bool.and_eq_true, Bool.and_eq_true, sameK_sub hj hb, subI_at its _ hb]
    exact ⟨⟨hk.1.1, seen_sub hp hl hb hk.1.2⟩, hk.2⟩
/-- Planned again: laid alike. -/
theorem again {its : List Itm} (at_ : List Int) (limit first : Int) : ∀ m, m ≤ its.length →
    (layTo (subI its (keptN its at_ its.length)) at_ limit first (keptN its at_ m).length).seals = (layTo its at_ limit first m).seals ∧
    (layTo (subI its (keptN its at_ its.length)) at_ limit first (keptN its at_ m).length).ahead = (layTo its at_ limit first m).ahead ∧
    (layTo (subI its (keptN its at_ its.length)) at_ limit first (keptN its at_ m).length).steps.map (fun s => (s.to, s.prev)) = (layTo its at_ limit first m).steps.map (fun s => (s.to, s.prev)) ∧
    (layTo (subI its (keptN its at_ its.length)) at_ limit first (keptN its at_ m).length).steps.map Sp.item = List.range (keptN its at_ m).length := by
  intro m
  induction m with
  | zero => intro _; exact ⟨rfl, rfl, rfl, rfl⟩
  | succ m ih =>
    intro hm
    obtain ⟨i1, i2, i3, i4⟩ := ih (by omega)
    have hsucc : keptN its at_ (m + 1) = keptN its at_ m ++ if keptB its at_ m then [m] else [] := by
      unfold keptN
      rw [List.range_succ, List.filter_append]
      cases h : keptB its at_ m <;> simp [h]
    cases h : keptB its at_ m with
    | false =>
      rw [hsucc, h]
      have e : layTo its at_ limit first (m + 1) = layTo its at_ limit first m := by rw [layTo, h]; rfl
      rw [e]
      simp only [Bool.false_eq_true, if_false, List.append_nil]
      exact ⟨i1, i2, i3, i4⟩
    | true =>
      have hget : (keptN its at_ its.length)[(keptN its at_ m).length]? = some m := by
        have hpre : ∃ r, keptN its at_ its.length = keptN its at_ (m + 1) ++ r := by
          refine ⟨((List.range' (m + 1) (its.length - (m + 1))).filter fun i => keptB its at_ i), ?_⟩
          unfold keptN
          rw [← List.filter_append]
          congr 1
          rw [List.range_eq_range', List.range_eq_range']
          have := List.range'_append (s := 0) (m := m + 1) (n := its.length - (m + 1)) (step := 1)
          simp at this
          rw [this]
          congr 1
          omega
        obtain ⟨r, hr⟩ := hpre
        rw [hr, hsucc, h]
        simp
      have hkb := kept_sub hget
      rw [hsucc, h]
      have e : layTo its at_ limit first (m + 1) = layP limit first (layTo its at_ limit first m) m (its.getD m default) := by rw [layTo, h]; rfl
      have e2 : layTo (subI its (keptN its at_ its.length)) at_ limit first ((keptN its at_ m).length + 1) = layP limit first (layTo (subI its (keptN its at_ its.length)) at_ limit first (keptN its at_ m).length) (keptN its at_ m).length (its.getD m default) := by
        rw [layTo, hkb, subI_at its _ hget]; rfl
      simp only [if_true, List.length_append, List.length_singleton]
      rw [e, e2]
      generalize layTo (subI its (keptN its at_ its.length)) at_ limit first (keptN its at_ m).length = A at i1 i2 i3 i4 ⊢
      generalize layTo its at_ limit first m = B at i1 i2 i3 ⊢
      unfold layP
      dsimp only
      rw [i1, i2]
      refine ⟨rfl, rfl, ?_, ?_⟩
      · rw [List.map_append, List.map_append, i3]; rfl
      · rw [List.map_append, i4, List.range_succ]; rfl
/-- With all numbers that items have: kept just if there is a Put of its key, no younger. -/
theorem kept_all {its : List Itm} (hm : MayP its) {i : Nat} (hi : i < its.length) :
    keptB its (its.map Itm.seq) i = (List.range (i + 1)).any fun j => sameK its i j && decide ((its.getD j default).kind = 1) := by
  have hseen : ∀ i, i < its.length → seenAt its (its.map Itm.seq) i = true := by
    intro i hi
    unfold seenAt
    rw [List.any_eq_true]
    refine ⟨(its.getD i default).seq, List.mem_map.2 ⟨its.getD i default, ?_, rfl⟩, ?_⟩
    · rw [List.getD_eq_getElem?_getD, List.getElem?_eq_getElem hi]; exact List.getElem_mem hi
    · rw [Bool.and_eq_true, List.all_eq_true]
      refine ⟨decide_eq_true (Int.le_refl _), fun j hj => ?_⟩
      have hj := List.mem_range.1 hj
      rw [Bool.not_eq_true', Bool.and_eq_false_iff, Bool.and_eq_false_iff]
      by_cases hij : i < j
      · have := hm.up i j hij hj
        exact .inr (decide_eq_false (by omega))
      · exact .inl (.inl (decide_eq_false hij))
  unfold keptB
  rw [hseen i hi, Bool.true_and, Bool.eq_iff_iff, List.any_eq_true, List.any_eq_true]
  constructor
  · rintro ⟨j, hj, h⟩
    rw [Bool.and_eq_true, Bool.and_eq_true] at h
    exact ⟨j, hj, by rw [Bool.and_eq_true]; exact ⟨h.1.1, h.2⟩⟩
  · rintro ⟨j, hj, h⟩
    have hj' := List.mem_range.1 hj
    rw [Bool.and_eq_true] at h
    exact ⟨j, hj, by rw [hseen j (by omega), Bool.and_true, Bool.and_eq_true]; exact h⟩
theorem map_nodup {α β : Type} {f : α → β} : ∀ {l : List α}, l.Nodup → (∀ a ∈ l, ∀ b ∈ l, f a = f b → a = b) → (l.map f).Nodup
  | [], _, _ => List.nodup_nil
  | a :: l, h, hf => by
    rw [List.nodup_cons] at h
    rw [List.map_cons, List.nodup_cons]
    refine ⟨fun hm => ?_, map_nodup h.2 fun x hx y hy => hf x (List.mem_cons_of_mem _ hx) y (List.mem_cons_of_mem _ hy)⟩
    obtain ⟨b, hb, he⟩ := List.mem_map.1 hm
    have := hf a List.mem_cons_self b (List.mem_cons_of_mem _ hb) he.symm
    exact h.1 (this ▸ hb)
/-- No more are kept than keys by numbers. -/
theorem kept_few {its : List Itm} (hk : ∀ y ∈ its, ∃ c : Nat, y.key = [107, c] ∧ c < 5) {at_ : List Int} {nm : List Int} (hn : ∀ s ∈ at_, s ∈ nm) : (keptN its at_ its.length).length ≤ 5 * nm.length := by
  have hx : ∀ i ∈ keptN its at_ its.length, ∃ s, s ∈ at_ ∧ newestL its (List.range its.length) (kcOf its i) s = i := by
    intro i hi
    obtain ⟨hil, hik⟩ := keptN_mem.1 hi
    exact (seenAt_iff hk at_ hil).1 ((keptB_iff hk at_ hil).1 hik).1
  have : ∃ f : Nat → Nat × Int, ∀ i ∈ keptN its at_ its.length, (f i).1 = kcOf its i ∧ (f i).2 ∈ at_ ∧ newestL its (List.range its.length) (f i).1 (f i).2 = i := by
    refine ⟨fun i => (kcOf its i, if h : i ∈ keptN its at_ its.length then Classical.choose (hx i h) else 0), fun i hi => ?_⟩
    have := Classical.choose_spec (hx i hi)
    simp only [hi, dif_pos]
    exact ⟨trivial, this⟩
  obtain ⟨f, hf⟩ := this
  have hnd : (keptN its at_ its.length).Nodup := (keptN_up.imp fun h => Nat.ne_of_lt h)
  have h1 : ((keptN its at_ its.length).map f).Nodup := map_nodup hnd fun a ha b hb he => by
    have e1 := (hf a ha).2.2
    have e2 := (hf b hb).2.2
    rw [he] at e1
    omega
  have h2 := nodup_le _ ((List.range 5).flatMap fun c => nm.map fun s => (c, s)) h1 (by
    intro p hp
    obtain ⟨i, hi, rfl⟩ := List.mem_map.1 hp
    obtain ⟨e1, e2, _⟩ := hf i hi
    refine List.mem_flatMap.2 ⟨(f i).1, List.mem_range.2 ?_, List.mem_map.2 ⟨(f i).2, hn _ e2, rfl⟩⟩
    rw [e1]; exact kcOf_lt hk (keptN_mem.1 hi).1)
  rw [List.length_map] at h2
  have h3 : ∀ l : List Nat, (l.flatMap fun c => nm.map fun s => (c, s)).length = l.length * nm.length := by
    intro l
    induction l with
    | nil => simp
    | cons a l ih => rw [List.flatMap_cons, List.length_append, ih, List.length_map, List.length_cons, Nat.add_mul]; omega
  rw [h3] at h2
  simpa using h2
end Go.Proofs.Ytbcmoikpmmjlkaa
