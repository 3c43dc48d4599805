/- Law 25: the newest item of a key; what the plan keeps stays: the plain part. -/
import Derived.Test.YtbcmoikpmmjlkaaPA
namespace Go.Proofs.Ytbcmoikpmmjlkaa
open Go Eng
set_option maxRecDepth 100000
/-- The key's second byte. -/
def kcOf (its : List Itm) (i : Nat) : Nat := (its.getD i default).key.getD 1 0
def newestL (its : List Itm) (among : List Nat) (key s : Int) : Int := among.foldl (fun at_ i => if (kcOf its i : Int) = key ∧ (its.getD i default).seq ≤ s then (i : Int) else at_) (-1)
theorem keyByte {w : World} {x : Im} {c : Nat} (hb : Bs w x.kv x.it.key) (hk : x.it.key = [107, c]) {K : Value → Prop} (h : K (.int .u8 (c : Nat))) : pureP Pg (Instr.indexAt 36 (.slice x.ka x.it.key.length x.kc) (.int .i64 1)) fun p => getO (loadW Pg 5 p w) K := by
  obtain ⟨kb, off, cc, e, _, hat⟩ := hb
  unfold Im.kv at e
  rw [e]
  refine (idxR (T := 36) (k := 1) (by kernel_rfl) (i := 1) (by rw [hk]; simp)).2 ?_
  have := hat.cell 1 (by rw [hk]; simp)
  rw [hk] at this
  simp [this, byC]
  exact h
/-- law25.newest. -/
theorem s23 {w : World} {v mv : Value} {ims : List Im} {among : List Nat} (h : Items w v ims) (hm : Rd w 1 encI mv among) (hin : ∀ i ∈ among, i < ims.length) (hk : ∀ x ∈ ims, ∃ c : Nat, x.it.key = [107, c] ∧ c < 5) (hl : among.length ≤ 100000) {key s : Int} {R : Value → World → Prop}
    (hR : R (.int .i64 (newestL (ims.map Im.it) among key s)) w) : F23 v mv (.int .u64 key) (.int .u64 s) w R := by
  obtain ⟨va, vc, rfl⟩ := h.rd.form
  obtain ⟨ma, mc, rfl⟩ := hm.form
  unfold F23
  simp
  refine ⟨fun st u => ∃ k : Nat, st = [.int .i64 (newestL (ims.map Im.it) (among.take k) key s), .int .i64 (k : Nat)] ∧ k ≤ among.length ∧ u = w, fun st _ => (among.length + 1 - n0 st 1).toNat, ⟨0, rfl, by omega, rfl⟩, ?_⟩
  rintro st u ⟨k, rfl, hkl, rfl⟩
  simp
  refine ifD (fun h1 => ?_) (fun h1 => ?_)
  · have e6 : IntKind.i64.wrap ((k : Int) + 1) = ((k + 1 : Nat) : Int) := i64_succ (by omega)
    obtain ⟨b, o, c2, ⟨off, ho, hsl⟩, hat⟩ := hm.at (List.getElem?_eq_getElem h1)
    injection hsl with hsl _ _
    subst hsl
    have hjn := hin _ (List.getElem_mem h1)
    have htk : newestL (ims.map Im.it) (among.take (k + 1)) key s = if (kcOf (ims.map Im.it) among[k] : Int) = key ∧ ((ims.map Im.it).getD among[k] default).seq ≤ s then (among[k] : Int) else newestL (ims.map Im.it) (among.take k) key s := by
      rw [List.take_succ_eq_append_getElem h1]; unfold newestL; rw [List.foldl_append]; rfl
    rw [idxR (T := 73) (k := 1) (by kernel_rfl) h1, ← ho]
    generalize among[k] = j at hat hjn htk
    simp [hat.cell0, encI]
    have hget := List.getElem?_eq_getElem hjn
    obtain ⟨b2, o2, c3, ⟨off2, ho2, hsl2⟩, hat2⟩ := h.rd.at hget
    injection hsl2 with hsl2 _ _
    subst hsl2
    have hits := its_at hget
    have hxm := List.getElem_mem hjn
    obtain ⟨c, hc, hc5⟩ := hk _ hxm
    have hbs := h.key _ hxm (by rw [hc]; simp)
    rw [idxR (T := 63) (k := 4) (by kernel_rfl) hjn, ← ho2]
    generalize ims[j] = x at hat2 hits hc hbs
    have hkc : kcOf (ims.map Im.it) j = c := by unfold kcOf; rw [hits, hc]; rfl
    rw [hkc, hits] at htk
    simp [hat2.cell0, encIm]
    refine keyByte hbs hc ?_
    simp
    have e5 : (c : Int) % 18446744073709551616 = c := by omega
    rw [e5, e6]
    refine ifD (fun h2 => ?_) (fun h2 => ?_)
    · rw [idxR (T := 63) (k := 4) (by kernel_rfl) hjn, ← ho2]
      simp [hat2.cell, encIm]
      refine ifD (fun h3 => ?_) (fun h3 => ?_)
      · rw [if_pos ⟨h2, h3⟩] at htk
        exact ⟨⟨k + 1, ⟨htk.symm, rfl⟩, h1⟩, by simp [n0]; omega⟩
      · rw [if_neg (fun hh => h3 hh.2)] at htk
        exact ⟨⟨k + 1, ⟨htk.symm, rfl⟩, h1⟩, by simp [n0]; omega⟩
    · rw [if_neg (fun hh => h2 hh.1)] at htk
      exact ⟨⟨k + 1, ⟨htk.symm, rfl⟩, h1⟩, by simp [n0]; omega⟩
  · obtain rfl : k = among.length := by omega
    rw [List.take_length]
    exact hR

/-! ### The plain law -/
/-- Which items are kept. -/
def keptN (its : List Itm) (at_ : List Int) (n : Nat) : List Nat := (List.range n).filter fun i => keptB its at_ i
theorem layTo_items (its : List Itm) (at_ : List Int) (limit first : Int) : ∀ k, (layTo its at_ limit first k).steps.map Sp.item = keptN its at_ k
  | 0 => rfl
  | k + 1 => by
    unfold layTo keptN
    rw [List.range_succ, List.filter_append]
    cases h : keptB its at_ k with
    | true =>
      rw [if_pos rfl]
      simp [layP, h]
      exact layTo_items its at_ limit first k
    | false =>
      simp [h]
      exact layTo_items its at_ limit first k
/-- The newest one among some that rise: the last one that is asked for. -/
theorem newestL_spec (its : List Itm) (key s : Int) : ∀ (among : List Nat), among.Pairwise (· < ·) →
    (newestL its among key s = -1 ∧ ∀ i ∈ among, ¬ ((kcOf its i : Int) = key ∧ (its.getD i default).seq ≤ s)) ∨
    ∃ i : Nat, newestL its among key s = i ∧ i ∈ among ∧ ((kcOf its i : Int) = key ∧ (its.getD i default).seq ≤ s) ∧ ∀ j ∈ among, i < j → ¬ ((kcOf its j : Int) = key ∧ (its.getD j default).seq ≤ s) := by
  intro among hp
  have key' : ∀ n, n ≤ among.length → (newestL its (among.take n) key s = -1 ∧ ∀ i ∈ among.take n, ¬ ((kcOf its i : Int) = key ∧ (its.getD i default).seq ≤ s)) ∨
      ∃ i : Nat, newestL its (among.take n) key s = i ∧ i ∈ among.take n ∧ ((kcOf its i : Int) = key ∧ (its.getD i default).seq ≤ s) ∧ ∀ j ∈ among.take n, i < j → ¬ ((kcOf its j : Int) = key ∧ (its.getD j default).seq ≤ s) := by
    intro n
    induction n with
    | zero => intro _; left; exact ⟨rfl, fun i hi => by simp at hi⟩
    | succ n ih =>
      intro hn
      have hn' : n < among.length := by omega
      have hlast : ∀ i ∈ among.take n, i < among[n] := by
        intro i hi
        obtain ⟨m, hm⟩ := List.getElem?_of_mem hi
        have hmn := (List.getElem?_eq_some_iff.1 hm).1
        rw [List.length_take] at hmn
        rw [List.getElem?_take, if_pos (by omega)] at hm
        exact (row_at hp hm (List.getElem?_eq_getElem hn')).2 (by omega)
      have htk : newestL its (among.take (n + 1)) key s = if (kcOf its among[n] : Int) = key ∧ (its.getD among[n] default).seq ≤ s then (among[n] : Int) else newestL its (among.take n) key s := by
        rw [List.take_succ_eq_append_getElem hn']; unfold newestL; rw [List.foldl_append]; rfl
      rw [htk, List.take_succ_eq_append_getElem hn']
      generalize among[n] = a at hlast
      by_cases hc : (kcOf its a : Int) = key ∧ (its.getD a default).seq ≤ s
      · rw [if_pos hc]
        right
        refine ⟨a, rfl, by simp, hc, fun j hj hij => ?_⟩
        rcases List.mem_append.1 hj with hj | hj
        · have := hlast j hj; omega
        · simp at hj; omega
      · rw [if_neg hc]
        rcases ih (by omega) with ⟨h1, h2⟩ | ⟨i, h1, h2, h3, h4⟩
        · left
          refine ⟨h1, fun i hi => ?_⟩
          rcases List.mem_append.1 hi with hi | hi
          · exact h2 i hi
          · simp at hi; subst hi; exact hc
        · right
          refine ⟨i, h1, List.mem_append_left _ h2, h3, fun j hj hij => ?_⟩
          rcases List.mem_append.1 hj with hj | hj
          · exact h4 j hj hij
          · simp at hj; subst hj; exact hc
  have := key' among.length (Nat.le_refl _)
  rwa [List.take_length] at this
/-- Two-byte keys: the same key just if the second bytes are the same. -/
theorem sameK_iff {its : List Itm} (hk : ∀ y ∈ its, ∃ c : Nat, y.key = [107, c] ∧ c < 5) {i j : Nat} (hi : i < its.length) (hj : j < its.length) : sameK its i j = true ↔ kcOf its i = kcOf its j := by
  have e : ∀ i, i < its.length → (its.getD i default).key = [107, kcOf its i] := by
    intro i hi
    have hm : its.getD i default ∈ its := by rw [List.getD_eq_getElem?_getD, List.getElem?_eq_getElem hi]; exact List.getElem_mem hi
    obtain ⟨c, hc, _⟩ := hk _ hm
    unfold kcOf; rw [hc]; rfl
  unfold sameK
  rw [decide_eq_true_eq, e i hi, e j hj]
  simp
theorem kcOf_lt {its : List Itm} (hk : ∀ y ∈ its, ∃ c : Nat, y.key = [107, c] ∧ c < 5) {i : Nat} (hi : i < its.length) : kcOf its i < 5 := by
  have hm : its.getD i default ∈ its := by rw [List.getD_eq_getElem?_getD, List.getElem?_eq_getElem hi]; exact List.getElem_mem hi
  obtain ⟨c, hc, h5⟩ := hk _ hm
  unfold kcOf; rw [hc]; exact h5
/-- Seen: the newest one of its key at some number. -/
theorem seenAt_iff {its : List Itm} (hk : ∀ y ∈ its, ∃ c : Nat, y.key = [107, c] ∧ c < 5) (at_ : List Int) {i : Nat} (hi : i < its.length) :
    seenAt its at_ i = true ↔ ∃ s ∈ at_, newestL its (List.range its.length) (kcOf its i) s = i := by
  have spec := fun s => newestL_spec its (kcOf its i) s (List.range its.length) List.pairwise_lt_range
  unfold seenAt
  rw [List.any_eq_true]
  constructor
  · rintro ⟨s, hs, h⟩
    rw [Bool.and_eq_true, decide_eq_true_eq, List.all_eq_true] at h
    refine ⟨s, hs, ?_⟩
    rcases spec s with ⟨_, h2⟩ | ⟨j, h1, h2, h3, h4⟩
    · exact absurd ⟨rfl, h.1⟩ (h2 i (List.mem_range.2 hi))
    · rw [h1]
      have hj := List.mem_range.1 h2
      rcases Nat.lt_trichotomy i j with hij | hij | hij
      · exfalso
        have := h.2 j h2
        rw [decide_eq_true hij, (sameK_iff hk hi hj).2 (by have := h3.1; omega), decide_eq_true h3.2] at this
        cases this
      · rw [hij]
      · exact absurd ⟨rfl, h.1⟩ (h4 i (List.mem_range.2 hi) hij)
  · rintro ⟨s, hs, h⟩
    refine ⟨s, hs, ?_⟩
    rcases spec s with ⟨h1, _⟩ | ⟨j, h1, h2, h3, h4⟩
    · omega
    · obtain rfl : i = j := by omega
      rw [Bool.and_eq_true, decide_eq_true_eq, List.all_eq_true]
      refine ⟨h3.2, fun j hj => ?_⟩
      have hj' := List.mem_range.1 hj
      rw [Bool.not_eq_true', Bool.and_eq_false_iff, Bool.and_eq_false_iff]
      by_cases hij : i < j
      · cases hsk : sameK its i j with
        | false => exact .inl (.inr rfl)
        | true =>
          right
          refine decide_eq_false fun hh => h4 j hj hij ⟨by have := (sameK_iff hk hi hj').1 hsk; omega, hh⟩
      · exact .inl (.inl (decide_eq_false hij))
theorem keptB_iff {its : List Itm} (hk : ∀ y ∈ its, ∃ c : Nat, y.key = [107, c] ∧ c < 5) (at_ : List Int) {i : Nat} (hi : i < its.length) :
    keptB its at_ i = true ↔ seenAt its at_ i = true ∧ ∃ j, j ≤ i ∧ kcOf its i = kcOf its j ∧ seenAt its at_ j = true ∧ (its.getD j default).kind = 1 := by
  unfold keptB
  rw [Bool.and_eq_true, List.any_eq_true]
  constructor
  · rintro ⟨h1, j, hj, h2⟩
    have hj := List.mem_range.1 hj
    rw [Bool.and_eq_true, Bool.and_eq_true, decide_eq_true_eq] at h2
    exact ⟨h1, j, by omega, (sameK_iff hk hi (by omega)).1 h2.1.1, h2.1.2, h2.2⟩
  · rintro ⟨h1, j, hj, h2, h3, h4⟩
    refine ⟨h1, j, List.mem_range.2 (by omega), ?_⟩
    rw [(sameK_iff hk hi (by omega)).2 h2, h3, decide_eq_true h4]; rfl
theorem keptN_mem {its : List Itm} {at_ : List Int} {n i : Nat} : i ∈ keptN its at_ n ↔ i < n ∧ keptB its at_ i = true := by
  unfold keptN
  rw [List.mem_filter, List.mem_range]
theorem keptN_up {its : List Itm} {at_ : List Int} {n : Nat} : (keptN its at_ n).Pairwise (· < ·) := List.Pairwise.filter _ List.pairwise_lt_range
def putAt (its : List Itm) (a : Int) : Bool := decide (0 ≤ a) && decide ((its.getD a.toNat default).kind = 1)
/-- The answers stay. -/
theorem stays {its : List Itm} (hk : ∀ y ∈ its, ∃ c : Nat, y.key = [107, c] ∧ c < 5) (hm : MayP its) {at_ : List Int} {s : Int} (hs : s ∈ at_) (key : Nat) :
    (putAt its (newestL its (List.range its.length) key s) = putAt its (newestL its (keptN its at_ its.length) key s)) ∧
    (putAt its (newestL its (List.range its.length) key s) = true → newestL its (List.range its.length) key s = newestL its (keptN its at_ its.length) key s) := by
  have spA := newestL_spec its key s (List.range its.length) List.pairwise_lt_range
  have spB := newestL_spec its key s (keptN its at_ its.length) keptN_up
  rcases spA with ⟨a1, a2⟩ | ⟨a, a1, a2, a3, a4⟩
  · rcases spB with ⟨b1, b2⟩ | ⟨b, b1, b2, b3, b4⟩
    · rw [a1, b1]; exact ⟨rfl, fun _ => rfl⟩
    · exact absurd b3 (a2 b (List.mem_range.2 (keptN_mem.1 b2).1))
  · have hal := List.mem_range.1 a2
    have hka : key = kcOf its a := by have := a3.1; omega
    have hseen : seenAt its at_ a = true := (seenAt_iff hk at_ hal).2 ⟨s, hs, by rw [← hka]; exact a1⟩
    by_cases hput : (its.getD a default).kind = 1
    · have hkept : a ∈ keptN its at_ its.length := keptN_mem.2 ⟨hal, (keptB_iff hk at_ hal).2 ⟨hseen, a, Nat.le_refl _, rfl, hseen, hput⟩⟩
      have hb : newestL its (keptN its at_ its.length) key s = a := by
        rcases spB with ⟨b1, b2⟩ | ⟨b, b1, b2, b3, b4⟩
        · exact absurd a3 (b2 a hkept)
        · rw [b1]
          rcases Nat.lt_trichotomy a b with hab | hab | hab
          · exact absurd b3 (a4 b (List.mem_range.2 (keptN_mem.1 b2).1) hab)
          · rw [hab]
          · exact absurd a3 (b4 a hkept hab)
      rw [a1, hb]
      exact ⟨rfl, fun _ => rfl⟩
    · have hpa : putAt its (a : Int) = false := by unfold putAt; rw [Int.toNat_natCast, decide_eq_false hput, Bool.and_false]
      rw [a1, hpa]
      refine ⟨?_, fun h => by cases h⟩
      rcases spB with ⟨b1, b2⟩ | ⟨b, b1, b2, b3, b4⟩
      · rw [b1]; rfl
      · rw [b1]
        obtain ⟨hbl, hbk⟩ := keptN_mem.1 b2
        unfold putAt
        rw [Int.toNat_natCast]
        by_cases hpb : (its.getD b default).kind = 1
        · exfalso
          have hba : b ≤ a := by
            rcases Nat.lt_or_ge a b with h | h
            · exact absurd b3 (a4 b (List.mem_range.2 hbl) h)
            · exact h
          have hsb := ((keptB_iff hk at_ hbl).1 hbk).1
          have hkk : kcOf its a = kcOf its b := by have := b3.1; omega
          have hkept : a ∈ keptN its at_ its.length := keptN_mem.2 ⟨hal, (keptB_iff hk at_ hal).2 ⟨hseen, b, hba, hkk, hsb, hpb⟩⟩
          rcases Nat.lt_or_ge b a with h | h
          · exact b4 a hkept h a3
          · obtain rfl : a = b := by omega
            exact hput hpb
        · rw [decide_eq_false hpb, Bool.and_false]
/-- A Delete that is kept has an older one that is. -/
theorem del_older {its : List Itm} (hk : ∀ y ∈ its, ∃ c : Nat, y.key = [107, c] ∧ c < 5) {at_ : List Int} {i : Nat} (hi : i ∈ keptN its at_ its.length) (hd : (its.getD i default).kind = 2) :
    ∃ j ∈ keptN its at_ its.length, j < i ∧ kcOf its j = kcOf its i := by
  obtain ⟨hil, hik⟩ := keptN_mem.1 hi
  obtain ⟨_, j, hj, h2, h3, h4⟩ := (keptB_iff hk at_ hil).1 hik
  have hjl : j < its.length := by omega
  refine ⟨j, keptN_mem.2 ⟨hjl, (keptB_iff hk at_ hjl).2 ⟨h3, j, Nat.le_refl _, rfl, h3, h4⟩⟩, ?_, h2.symm⟩
  rcases Nat.lt_or_ge j i with h | h
  · exact h
  · obtain rfl : i = j := by omega
    rw [hd] at h4; cases h4
/-- A few writes' plan is told. -/
theorem plan_small {its : List Itm} (hm : mayI 0 its = true) (hl : its.length ≤ 100) (at_ : List Int) {limit first : Int} (hli : 4096 ≤ limit ∧ limit ≤ 16777216) (hf : 1 ≤ first ∧ first ≤ 1000) :
    planOf its at_ limit first = ((layTo its at_ limit first its.length).steps, (layTo its at_ limit first its.length).seals, 0) := by
  obtain ⟨n, hn, hok⟩ := layTo_ok (first := first) (mayP_of (Int.le_refl 0) hm) at_ hli.2 its.length (Nat.le_refl _)
  unfold planOf
  rw [if_neg (by rw [hm]; simp [outP]; omega), if_neg]
  unfold fullP
  rw [Bool.or_eq_true, decide_eq_true_eq]
  rintro (h | h)
  · have := hok.len; omega
  · cases hg : (layTo its at_ limit first its.length).seals.getLast? with
    | none => rw [hg] at h; cases h
    | some l =>
      rw [hg] at h
      have := of_decide_eq_true h
      have := hok.sl l (List.mem_of_getLast? hg)
      omega
end Go.Proofs.Ytbcmoikpmmjlkaa
