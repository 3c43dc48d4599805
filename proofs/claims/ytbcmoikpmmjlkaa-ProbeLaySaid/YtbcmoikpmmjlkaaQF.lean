/- Law 14: the keys of a table, its unused slots, ways round. -/
import Derived.Test.YtbcmoikpmmjlkaaQE
namespace Go.Proofs.Ytbcmoikpmmjlkaa
open Go Eng
set_option maxRecDepth 100000
def ks (l : List Pm) : List (List Nat) := (l.filter (·.used)).map (·.key)
theorem ks_perm {l m : List Pm} (h : l.Perm m) : (ks l).Perm (ks m) := (h.filter _).map _
theorem ks_cons (x : Pm) (l : List Pm) : ks (x :: l) = if x.used then x.key :: ks l else ks l := by
  unfold ks
  rw [List.filter_cons]
  split <;> rfl
theorem ks_mem {l : List Pm} {k : List Nat} : k ∈ ks l ↔ ∃ x ∈ l, x.used = true ∧ x.key = k := by
  unfold ks
  simp only [List.mem_map, List.mem_filter]
  constructor
  · rintro ⟨x, ⟨h1, h2⟩, h3⟩; exact ⟨x, h1, h2, h3⟩
  · rintro ⟨x, h1, h2, h3⟩; exact ⟨x, ⟨h1, h2⟩, h3⟩
theorem sl_of_mem {L : List Pm} {x : Pm} (hx : x ∈ L) : ∃ p, p < L.length ∧ sl L p = x := by
  obtain ⟨p, hp, rfl⟩ := List.mem_iff_getElem.1 hx
  refine ⟨p, hp, ?_⟩
  unfold sl
  rw [Nat.mod_eq_of_lt hp, List.getD_eq_getElem?_getD, List.getElem?_eq_getElem hp]; rfl
theorem ks_has {L : List Pm} (hn : 0 < L.length) {k : List Nat} : k ∈ ks L ↔ ∃ p, (sl L p).used = true ∧ (sl L p).key = k := by
  rw [ks_mem]
  constructor
  · rintro ⟨x, hx, h1, h2⟩
    obtain ⟨p, _, rfl⟩ := sl_of_mem hx
    exact ⟨p, h1, h2⟩
  · rintro ⟨p, h1, h2⟩
    exact ⟨_, sl_mem hn p, h1, h2⟩
theorem set_perm {x : Pm} : ∀ {L : List Pm} {i : Nat} {y : Pm}, L[i]? = some y → (y :: L.set i x).Perm (x :: L)
  | a :: L, 0, y, h => by
    simp at h; subst h
    exact List.Perm.swap _ _ _
  | a :: L, i + 1, y, h => by
    have ih := set_perm (x := x) (L := L) (i := i) (y := y) (by simpa using h)
    exact (List.Perm.swap _ _ _).trans ((ih.cons a).trans (List.Perm.swap _ _ _))
theorem sl_set_perm {L : List Pm} {n : Nat} (hl : L.length = n) (hn : 0 < n) (q : Nat) (x : Pm) : (sl L q :: L.set (q % n) x).Perm (x :: L) := set_perm (sl_get hl hn)
theorem ks_swap {x y : Pm} (h1 : x.used = y.used) (h2 : x.key = y.key) (l : List Pm) : ks (x :: l) = ks (y :: l) := by rw [ks_cons, ks_cons, h1, h2]
/-- One step of laying keeps the keys. -/
theorem ks_lay {L : List Pm} {n : Nat} (hl : L.length = n) (hn : 0 < n) (q : Nat) (x : Pm) {y : Pm} (h1 : y.used = (sl L q).used) (h2 : y.key = (sl L q).key) : (ks (y :: L.set (q % n) x)).Perm (ks (x :: L)) := by
  rw [ks_swap h1 h2]
  exact ks_perm (sl_set_perm hl hn q x)
/-- .. of removing. -/
theorem ks_shift {L : List Pm} {n : Nat} (hl : L.length = n) (hn : 2 ≤ n) (q : Nat) {y : Pm} (h1 : y.used = (sl L (q + 1)).used) (h2 : y.key = (sl L (q + 1)).key) (hu : y.used = true) : (ks ((L.set (q % n) y).set ((q + 1) % n) zPm)).Perm (ks (L.set (q % n) zPm)) := by
  have hne := md_succ (q := q) hn
  have z : ∀ l, ks (zPm :: l) = ks l := fun l => by rw [ks_cons]; rfl
  have a1 := ks_perm (sl_set_perm (L := L.set (q % n) y) (n := n) (x := zPm) (List.length_set.trans hl) (by omega) (q + 1))
  rw [sl_set hl (by omega), if_neg hne, z] at a1
  have a2 := ks_perm (sl_set_perm hl (by omega : 0 < n) q y)
  have a3 := ks_perm (sl_set_perm hl (by omega : 0 < n) q zPm)
  rw [z] at a3
  rw [ks_swap (x := y) (y := sl L (q + 1)) h1 h2] at a2
  rw [ks_cons, ← h1, hu, if_pos rfl] at a1
  rw [ks_cons (sl L (q + 1)), ← h1, hu, if_pos rfl] at a2
  rw [ks_cons] at a2 a3
  cases hq : (sl L q).used with
  | false =>
    rw [hq] at a2 a3
    simp only [Bool.false_eq_true, if_false] at a2 a3
    exact List.Perm.cons_inv (a1.trans (a2.trans (a3.symm.cons _)))
  | true =>
    rw [hq] at a2 a3
    simp only [if_true] at a2 a3
    have b1 := (a1.cons (sl L q).key).trans (a2.trans (a3.symm.cons _))
    exact List.Perm.cons_inv (List.Perm.cons_inv ((b1).trans (List.Perm.swap _ _ _)))
theorem two_unused {L : List Pm} {n : Nat} (hl : L.length = n) (h : (ks L).length + 2 ≤ n) (q : Nat) : ∃ m, m + 2 ≤ n ∧ (sl L (q + m)).used = false := by
  refine Classical.byContradiction fun hno => ?_
  have hu : ∀ m, m + 2 ≤ n → (sl L (q + m)).used = true := fun m hm => by
    cases hc : (sl L (q + m)).used with
    | true => rfl
    | false => exact absurd ⟨m, hm, hc⟩ hno
  have hz : ∀ p, p < n → p ≠ (q + (n - 1)) % n → ∀ x, L[p]? = some x → x.used = true := by
    intro p hp hne x hx
    obtain ⟨m, hm, hr⟩ := md_reach (show 0 < n by omega) q p
    rw [Nat.mod_eq_of_lt hp] at hr
    have hm2 : m + 2 ≤ n := by
      refine Classical.byContradiction fun hc => ?_
      obtain rfl : m = n - 1 := by omega
      exact hne hr.symm
    have := hu m hm2
    rw [sl_congr (q := p) (by rw [hl, hr, Nat.mod_eq_of_lt hp])] at this
    have e := sl_get hl (by omega) (p := p)
    rw [Nat.mod_eq_of_lt hp, hx] at e
    injection e with e
    rw [e]; exact this
  generalize (q + (n - 1)) % n = z at hz
  have hlen : ∀ (l : List Pm), (∀ x ∈ l, x.used = true) → (ks l).length = l.length := fun l hl => by
    unfold ks
    rw [List.length_map, List.filter_eq_self.2 (by simpa using hl)]
  have e1 : (ks (L.take z)).length = (L.take z).length := hlen _ fun x hx => by
    obtain ⟨i, hi, rfl⟩ := List.mem_iff_getElem.1 hx
    rw [List.length_take] at hi
    refine hz i (by omega) (by omega) _ ?_
    rw [List.getElem_take, List.getElem?_eq_getElem]
  have e2 : (ks (L.drop (z + 1))).length = (L.drop (z + 1)).length := hlen _ fun x hx => by
    obtain ⟨i, hi, rfl⟩ := List.mem_iff_getElem.1 hx
    rw [List.length_drop] at hi
    refine hz (z + 1 + i) (by omega) (by omega) _ ?_
    rw [List.getElem_drop, List.getElem?_eq_getElem]
  have hsplit : L = L.take z ++ L.drop z := (List.take_append_drop z L).symm
  have e3 : (ks (L.drop (z + 1))).length ≤ (ks (L.drop z)).length := by
    cases hd : L.drop z with
    | nil =>
      have : L.drop (z + 1) = [] := by rw [← List.drop_drop, hd]; rfl
      rw [this]; exact Nat.le_refl _
    | cons x l =>
      have : L.drop (z + 1) = l := by rw [← List.drop_drop, hd]; rfl
      rw [this, ks_cons]
      split <;> simp
  have e4 : (ks L).length = (ks (L.take z)).length + (ks (L.drop z)).length := by
    conv => lhs; rw [hsplit]
    unfold ks
    rw [List.filter_append, List.map_append, List.length_append]
  rw [List.length_take] at e1
  rw [List.length_drop] at e2
  omega
theorem unused_of {L : List Pm} {n : Nat} (hl : L.length = n) (h : (ks L).length + 2 ≤ n) : ∃ u, (sl L u).used = false := by
  obtain ⟨m, _, h⟩ := two_unused hl h 0
  exact ⟨_, h⟩
/-- How far it is from one place to another. -/
def dist (n p a : Nat) : Nat := (a + (n - p)) % n
theorem dist_eq {n q i : Nat} (hi : i < n) : dist n (q % n) ((q + i) % n) = i := by
  have hn : 0 < n := by omega
  have hlt := Nat.mod_lt q hn
  have hd := Nat.div_add_mod q n
  unfold dist
  refine md_inj (q := q) (Nat.mod_lt _ hn) hi ?_
  rw [Nat.add_mod, Nat.mod_mod, ← Nat.add_mod]
  have : q + ((q + i) % n + (n - q % n)) = (q + i) % n + n * (q / n + 1) := by rw [Nat.mul_add, Nat.mul_one]; omega
  rw [this, Nat.add_mul_mod_self_left, Nat.mod_mod]
end Go.Proofs.Ytbcmoikpmmjlkaa
