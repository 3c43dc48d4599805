/- Law 25: the document's own plan is the program's: ref25.Of. -/
import Derived.Test.YtbcmoikpmmjlkaaPF
namespace Go.Proofs.Ytbcmoikpmmjlkaa
open Go Eng
set_option maxRecDepth 100000
/-! ### The plain part -/
/-- Where the last one of a key is laid. -/
def lastTo (its : List Itm) (steps : List Sp) (key : List Nat) : Option (Int × Int) := steps.foldl (fun acc s => if (its.getD s.item default).key = key then some s.to else acc) none
theorem lastTo_snoc (its : List Itm) (steps : List Sp) (s : Sp) (key : List Nat) : lastTo its (steps ++ [s]) key = if (its.getD s.item default).key = key then some s.to else lastTo its steps key := by
  unfold lastTo; rw [List.foldl_append]; rfl
theorem lastTo_isSome (its : List Itm) (key : List Nat) : ∀ steps : List Sp, (lastTo its steps key).isSome = true ↔ ∃ i ∈ steps.map Sp.item, (its.getD i default).key = key := by
  have h : ∀ n (steps : List Sp), steps.length = n → ((lastTo its steps key).isSome = true ↔ ∃ i ∈ steps.map Sp.item, (its.getD i default).key = key) := by
    intro n
    induction n with
    | zero => intro steps hs; rw [List.eq_nil_of_length_eq_zero hs]; simp [lastTo]
    | succ n ih =>
      intro steps hs
      have hne : steps ≠ [] := by rintro rfl; simp at hs
      rw [← List.dropLast_concat_getLast hne, lastTo_snoc]
      have := ih steps.dropLast (by simp; omega)
      by_cases hk : (its.getD (steps.getLast hne).item default).key = key
      · rw [if_pos hk]
        simp only [Option.isSome_some, true_iff]
        exact ⟨_, by rw [List.map_append]; simp, hk⟩
      · rw [if_neg hk, this, List.map_append]
        constructor
        · rintro ⟨i, hi, e⟩; exact ⟨i, List.mem_append_left _ hi, e⟩
        · rintro ⟨i, hi, e⟩
          rcases List.mem_append.1 hi with hi | hi
          · exact ⟨i, hi, e⟩
          · simp only [List.map_cons, List.map_nil, List.mem_singleton] at hi; subst hi; exact absurd e hk
  exact fun steps => h _ steps rfl
theorem ahead_last {its : List Itm} (hm : MayP its) (hb : ∀ i, i < its.length → ∀ c ∈ (its.getD i default).key, c < 256) (at_ : List Int) (limit first : Int) : ∀ k, k ≤ its.length → ∀ i, i < its.length →
    look (prOf (its.getD i default).key) (layTo its at_ limit first k).ahead = lastTo its (layTo its at_ limit first k).steps (its.getD i default).key := by
  intro k
  induction k with
  | zero => intro _ i _; rfl
  | succ k ih =>
    intro hk i hi
    have ih := ih (by omega) i hi
    unfold layTo
    split
    · generalize layTo its at_ limit first k = s at ih ⊢
      unfold layP
      dsimp only
      rw [look_put, lastTo_snoc]
      by_cases he : (its.getD i default).key = (its.getD k default).key
      · rw [if_pos (by rw [he]), if_pos he.symm]
      · rw [if_neg (fun e => he (prOf_inj (hb i hi) (hb k (by omega)) (hm.key i hi).2 e)), if_neg (fun e => he e.symm)]
        exact ih
    · exact ih
theorem kept_ref {its : List Itm} (at_ : List Int) (limit first : Int) {i : Nat} :
    keptB its at_ i = (seenAt its at_ i && (decide ((its.getD i default).kind = 1) || (lastTo its (layTo its at_ limit first i).steps (its.getD i default).key).isSome)) := by
  have hl := lastTo_isSome its (its.getD i default).key (layTo its at_ limit first i).steps
  rw [layTo_items] at hl
  cases hs : seenAt its at_ i with
  | false => unfold keptB; rw [hs]; rfl
  | true =>
    rw [Bool.true_and, Bool.eq_iff_iff, Bool.or_eq_true, decide_eq_true_eq, hl]
    have kb : ∀ j, keptB its at_ j = true ↔ seenAt its at_ j = true ∧ ∃ j', j' ≤ j ∧ (its.getD j default).key = (its.getD j' default).key ∧ seenAt its at_ j' = true ∧ (its.getD j' default).kind = 1 := by
      intro j
      unfold keptB
      rw [Bool.and_eq_true, List.any_eq_true]
      constructor
      · rintro ⟨h1, j', hj, h2⟩
        have hj := List.mem_range.1 hj
        rw [Bool.and_eq_true, Bool.and_eq_true, decide_eq_true_eq] at h2
        exact ⟨h1, j', by omega, of_decide_eq_true h2.1.1, h2.1.2, h2.2⟩
      · rintro ⟨h1, j', hj, h2, h3, h4⟩
        refine ⟨h1, j', List.mem_range.2 (by omega), ?_⟩
        rw [Bool.and_eq_true, Bool.and_eq_true, decide_eq_true_eq]
        exact ⟨⟨decide_eq_true h2, h3⟩, h4⟩
    rw [kb i]
    constructor
    · rintro ⟨_, j, hj, h2, h3, h4⟩
      by_cases hij : j = i
      · subst hij; exact .inl h4
      · exact .inr ⟨j, keptN_mem.2 ⟨by omega, (kb j).2 ⟨h3, j, Nat.le_refl _, rfl, h3, h4⟩⟩, h2.symm⟩
    · rintro (h | ⟨j, hj, he⟩)
      · exact ⟨hs, i, Nat.le_refl _, rfl, hs, h⟩
      · obtain ⟨hji, hjk⟩ := keptN_mem.1 hj
        obtain ⟨_, j', hj', h2, h3, h4⟩ := (kb j).1 hjk
        exact ⟨hs, j', by omega, by rw [← he, h2], h3, h4⟩
/-! ### The walk -/
theorem row109 : RowT 109 119 5 24 := ⟨Try.underlying109, by kernel_rfl⟩
/-- The document's plan in memory. -/
structure PlR (w : World) (B q : Nat) (sv lv : Value) (steps : List Sp) (seals : List Sl) : Prop where
  cell : hp w q = some (.cells #[sv, lv] 111)
  st : Own w B 119 5 encSp sv steps
  sl : Own w B 116 5 encSl lv seals
  ge : B ≤ q
theorem PlR.bel {w w' : World} {B q : Nat} {sv lv : Value} {st : List Sp} {sl : List Sl} (h : PlR w B q sv lv st sl) (k : Bel w w') : PlR w' B q sv lv st sl := ⟨bg k h.cell, h.st.bel k, h.sl.bel k, h.ge⟩
theorem stL5 {w : World} {g : Nat} {A rest : List Value} {s s' : Sl} (hg : hp w g = some (.cells (A ++ (encSl s ++ rest)).toArray 116 (0, 0))) {o : Nat} (ho : o = A.length) {K : World → Prop}
    (hK : K (upd w g (.cells (A ++ (encSl s' ++ rest)).toArray 116))) : getU (storeW Pg 116 (.pointer (some ⟨g, o, none⟩)) (.agg (encSl s').toArray) w) K := by
  subst ho
  have h1 : A.length + 5 ≤ A.length + (rest.length + 1 + 1 + 1 + 1 + 1) := by omega
  simp [hg, encSl, h1]
  have e : ∀ (c : List Value) (j : Nat) (u : Value), (A ++ c).set (A.length + j) u = A ++ c.set j u := fun c j u => by simp
  rw [show A.length + 1 + 1 = A.length + 2 from rfl, show A.length + 2 + 1 = A.length + 3 from rfl, show A.length + 3 + 1 = A.length + 4 from rfl, e, e, e]
  simpa [encSl] using hK
end Go.Proofs.Ytbcmoikpmmjlkaa
