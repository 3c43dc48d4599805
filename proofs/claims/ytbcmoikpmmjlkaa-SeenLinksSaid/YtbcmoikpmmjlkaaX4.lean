/- Law 20: SeenLinks: the plain part. -/
import Derived.Test.YtbcmoikpmmjlkaaS3
import Derived.Test.YtbcmoikpmmjlkaaG
import Derived.Test.YtbcmoikpmmjlkaaI
namespace Go.Proofs.Ytbcmoikpmmjlkaa
open Go Eng
set_option maxRecDepth 100000
/-- The places of a key. -/
def idxs (c : Nat) (ks : List Nat) : List Nat := (List.range ks.length).filter fun j => decide (ks[j]? = some c)
theorem idxs_nil (c : Nat) : idxs c [] = [] := rfl
theorem idxs_snoc (d : Nat) (ks : List Nat) (c : Nat) : idxs d (ks ++ [c]) = if c = d then idxs d ks ++ [ks.length] else idxs d ks := by
  unfold idxs
  rw [List.length_append, List.length_singleton, List.range_succ, List.filter_append]
  have : (List.range ks.length).filter (fun j => decide ((ks ++ [c])[j]? = some d)) = (List.range ks.length).filter fun j => decide (ks[j]? = some d) := by
    apply List.filter_congr
    intro j hj
    rw [List.getElem?_append_left (List.mem_range.1 hj)]
  rw [this]
  by_cases h : c = d <;> simp [h]
theorem idxs_lt {c : Nat} {ks : List Nat} {j : Nat} (h : j ∈ idxs c ks) : j < ks.length := List.mem_range.1 (List.mem_filter.1 h).1
def locOf (j : Nat) : Int × Int := (1, 16 + 30 * (j : Int))
theorem locOf_inj {i j : Nat} (h : locOf i = locOf j) : i = j := by injection h with _ h; omega
/-- Where the n-th from below leads. -/
def stopAt (l : List Nat) (n : Nat) : Int × Int := match n with | 0 => (0, 0) | n + 1 => locOf (l.getD n 0)
def versOf (l : List Nat) : List Vr := l.map fun (j : Nat) => ⟨(j : Int) + 1, 1⟩
theorem versOf_length (l : List Nat) : (versOf l).length = l.length := by simp [versOf]
/-- What is known behind a first part of the records. -/
structure K20 (L : Lk) (sq : List ((Int × Int) × Int)) (ks : List Nat) : Prop where
  heads : ∀ c : Nat, look (prOf [c]) L.heads = (idxs c ks).getLast?.map fun j => ⟨1, 16 + 30 * (j : Int), (j : Int) + 1, 1⟩
  ahead : ∀ c n j, (idxs c ks)[n]? = some j → look (locOf j) L.ahead = some (stopAt (idxs c ks) n)
  fresh : ∀ j, ks.length ≤ j → look (locOf j) L.ahead = none
  last : L.last = ks.length
  wrong : L.wrong.length ≤ ks.length
  seqs : ∀ j, j < ks.length → look (locOf j) sq = some ((j : Int) + 1)
theorem K20.start {p hm am : Nat} : K20 ⟨p, hm, am, .slice none 0 0, [], [], [], 0⟩ [] [] :=
  ⟨fun c => rfl, fun c n j h => by simp [idxs_nil] at h, fun j _ => rfl, rfl, Nat.le_refl _, fun j h => absurd h (by simp)⟩
theorem K20.bef {L : Lk} {sq : List ((Int × Int) × Int)} {ks : List Nat} (h : K20 L sq ks) (c : Nat) : bef L [c] = stopAt (idxs c ks) (idxs c ks).length := by
  unfold Go.Proofs.Ytbcmoikpmmjlkaa.bef
  rw [h.heads c]
  cases e : (idxs c ks) with
  | nil => rfl
  | cons a l =>
    rw [List.getLast?_eq_getElem?, List.length_cons]
    simp only [stopAt, Nat.add_sub_cancel]
    rw [List.getElem?_eq_getElem (by simp)]
    simp [locOf, List.getD_eq_getElem?_getD]
theorem K20.add {L L' : Lk} {sq sq' : List ((Int × Int) × Int)} {ks : List Nat} (h : K20 L sq ks) {c : Nat}
    (h1 : L'.heads = put (prOf [c]) ⟨1, 16 + 30 * (ks.length : Int), (ks.length : Int) + 1, 1⟩ L.heads) (h2 : L'.ahead = put (locOf ks.length) (Go.Proofs.Ytbcmoikpmmjlkaa.bef L [c]) L.ahead)
    (h3 : L'.wrong.length ≤ L.wrong.length + 1) (h4 : L'.last = (ks.length : Int) + 1) (h5 : sq' = put (locOf ks.length) ((ks.length : Int) + 1) sq) : K20 L' sq' (ks ++ [c]) := by
  refine ⟨?_, ?_, ?_, ?_, ?_, ?_⟩
  · intro d
    rw [h1, look_put, idxs_snoc]
    by_cases hd : c = d
    · subst hd; simp
    · rw [if_neg hd, if_neg (fun e => by rw [prOf_one, prOf_one] at e; injection e with _ e; omega), h.heads d]
  · intro d n j hj
    rw [h2, look_put]
    rw [idxs_snoc] at hj ⊢
    by_cases hd : c = d
    · subst hd
      rw [if_pos rfl] at hj ⊢
      rw [List.getElem?_append] at hj
      split at hj
      · rename_i hn
        have hlt := idxs_lt (List.mem_of_getElem? hj)
        rw [if_neg (fun e => by have := locOf_inj e; omega), h.ahead c n j hj]
        cases n with
        | zero => rfl
        | succ n => simp only [stopAt, List.getD_eq_getElem?_getD]; rw [List.getElem?_append_left (by omega)]
      · rename_i hn
        have hl := (List.getElem?_eq_some_iff.1 hj).1
        simp at hl
        have hn : n = (idxs c ks).length := by omega
        subst hn
        simp at hj
        subst hj
        rw [if_pos rfl, h.bef c]
        cases e : (idxs c ks).length with
        | zero => rfl
        | succ n => simp only [stopAt, List.getD_eq_getElem?_getD]; rw [List.getElem?_append_left (by omega)]
    · rw [if_neg hd] at hj ⊢
      have hlt := idxs_lt (List.mem_of_getElem? hj)
      rw [if_neg (fun e => by have := locOf_inj e; omega), h.ahead d n j hj]
  · intro j hj
    rw [List.length_append, List.length_singleton] at hj
    rw [h2, look_put, if_neg (fun e => by have := locOf_inj e; omega)]
    exact h.fresh j (by omega)
  · rw [h4]; simp
  · rw [List.length_append, List.length_singleton]; have := h.wrong; omega
  · intro j hj
    rw [List.length_append, List.length_singleton] at hj
    rw [h5, look_put]
    by_cases hjl : j = ks.length
    · subst hjl; rw [if_pos rfl]
    · rw [if_neg (fun e => hjl (locOf_inj e)), h.seqs j (by omega)]
theorem mayFrom_snoc {v : Vr} : ∀ {l : List Vr} {last : Int}, mayFrom last l = true → (∀ x ∈ l, x.seq < v.seq) → last < v.seq → v.seq ≤ 1099511627776 → (v.kind = 1 ∨ v.kind = 2) → mayFrom last (l ++ [v]) = true
  | [], last, _, _, h2, h3, h4 => by
    simp only [List.nil_append, mayFrom]
    rw [if_neg (by omega)]
  | x :: l, last, h, h1, h2, h3, h4 => by
    obtain ⟨e1, e2, e3, e4⟩ := mayFrom_cons h
    simp only [List.cons_append, mayFrom]
    rw [if_neg (by omega)]
    exact mayFrom_snoc e4 (fun y hy => h1 y (List.mem_cons_of_mem _ hy)) (h1 x List.mem_cons_self) h3 h4
theorem versOf_may (c : Nat) (ks : List Nat) (hl : ks.length ≤ 1000) : mayFrom 0 (versOf (idxs c ks)) = true := by
  have key : ∀ n, n ≤ ks.length → mayFrom 0 (versOf (idxs c (ks.take n))) = true := by
    intro n
    induction n with
    | zero => intro _; rfl
    | succ n ih =>
      intro hn
      rw [List.take_succ_eq_append_getElem (by omega), idxs_snoc]
      split
      · unfold versOf
        rw [List.map_append]
        refine mayFrom_snoc (ih (by omega)) ?_ (by simp <;> omega) (by simp <;> omega) (.inl rfl)
        intro x hx
        obtain ⟨j, hj, rfl⟩ := List.mem_map.1 hx
        have := idxs_lt hj
        simp at this
        simp
        omega
      · exact ih (by omega)
  have := key ks.length (Nat.le_refl _)
  rwa [List.take_length] at this
/-- Where the way ends. -/
theorem stop_bh {l : List Nat} {s : Int} {n : Nat} (hm : mayFrom 0 (versOf l) = true) (hn : n ≤ l.length) (h1 : ∀ i j, n ≤ i → l[i]? = some j → s < (j : Int) + 1) (h2 : ∀ k j, n = k + 1 → l[k]? = some j → (j : Int) + 1 ≤ s) : bh (versOf l) s = n := by
  have hb := bh_le (versOf l) s
  rw [versOf_length] at hb
  have sp : ∀ (i j : Nat), l[i]? = some j → ((j : Int) + 1 ≤ s ↔ i < bh (versOf l) s) := fun i j hj => bh_spec (s := s) hm i ⟨(j : Int) + 1, 1⟩ (by unfold versOf; rw [List.getElem?_map, hj]; rfl)
  rcases Nat.lt_trichotomy (bh (versOf l) s) n with h | h | h
  · exfalso
    obtain ⟨k, rfl⟩ : ∃ k, n = k + 1 := ⟨n - 1, by omega⟩
    have hk : l[k]? = some l[k] := List.getElem?_eq_getElem (by omega)
    have := (sp k _ hk).1 (h2 k _ rfl hk)
    omega
  · exact h
  · exfalso
    have hk : l[n]? = some l[n] := List.getElem?_eq_getElem (by omega)
    have := (sp n _ hk).2 h
    have := h1 n _ (Nat.le_refl _) hk
    omega
end Go.Proofs.Ytbcmoikpmmjlkaa
