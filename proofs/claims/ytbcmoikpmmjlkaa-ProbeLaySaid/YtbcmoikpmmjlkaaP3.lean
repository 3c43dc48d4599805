/- Plans: which items are kept: the plain part. -/
import Derived.Test.YtbcmoikpmmjlkaaP1
namespace Go.Proofs.Ytbcmoikpmmjlkaa
open Go Eng
set_option maxRecDepth 100000
instance : Inhabited Itm := ⟨⟨[], 0, 0, 0⟩⟩
/-! ### Prints tell keys -/
theorem leW_inj : ∀ {a b : List Nat}, a.length = b.length → (∀ x ∈ a, x < 256) → (∀ x ∈ b, x < 256) → leW a = leW b → a = b
  | [], [], _, _, _, _ => rfl
  | x :: a, y :: b, hl, ha, hb, h => by
    unfold leW at h
    have hx := ha x List.mem_cons_self
    have hy := hb y List.mem_cons_self
    have h1 : x = y := by omega
    have h2 : leW a = leW b := by omega
    rw [h1, leW_inj (by simpa using hl) (fun z hz => ha z (List.mem_cons_of_mem _ hz)) (fun z hz => hb z (List.mem_cons_of_mem _ hz)) h2]
theorem prOf_inj {a b : List Nat} (ha : ∀ x ∈ a, x < 256) (hb : ∀ x ∈ b, x < 256) (hl : a.length ≤ 64) (h : prOf a = prOf b) : a = b := by
  unfold prOf at h
  injection h with h0 h1 h2 h3 h4 h5 h6 h7 h8
  have hlen : a.length = b.length := by omega
  have hc : ∀ i, i < 8 → chunk a i = chunk b i := by
    intro i hi
    refine leW_inj (by rw [chunk_length, chunk_length, hlen]) (chunk_mem ha) (chunk_mem hb) ?_
    have : i = 0 ∨ i = 1 ∨ i = 2 ∨ i = 3 ∨ i = 4 ∨ i = 5 ∨ i = 6 ∨ i = 7 := by omega
    rcases this with rfl | rfl | rfl | rfl | rfl | rfl | rfl | rfl <;> omega
  apply List.ext_getElem?
  intro n
  by_cases hn : n < a.length
  · have hd : n / 8 < 8 := by omega
    have hm : n % 8 < 8 := Nat.mod_lt _ (by decide)
    have hla : n % 8 < (chunk a (n / 8)).length := by rw [chunk_length]; omega
    have hlb : n % 8 < (chunk b (n / 8)).length := by rw [chunk_length]; omega
    have e1 := chunk_at hla
    have e2 := chunk_at hlb
    rw [Nat.div_add_mod] at e1 e2
    rw [e1, e2]
    congr 1
    have := hc _ hd
    simp only [this]
  · rw [List.getElem?_eq_none (by omega), List.getElem?_eq_none (by omega)]

/-! ### Items that may be -/
/-- What May asks. -/
structure MayP (its : List Itm) : Prop where
  key : ∀ i, i < its.length → 1 ≤ (its.getD i default).key.length ∧ (its.getD i default).key.length ≤ 64
  seq : ∀ i, i < its.length → 0 < (its.getD i default).seq ∧ (its.getD i default).seq ≤ 1099511627776
  kind : ∀ i, i < its.length → (its.getD i default).kind = 1 ∨ (its.getD i default).kind = 2
  size : ∀ i, i < its.length → 25 ≤ (its.getD i default).size ∧ (its.getD i default).size ≤ 1113
  up : ∀ i j, i < j → j < its.length → (its.getD i default).seq < (its.getD j default).seq
theorem mayI_gt : ∀ {l : List Itm} {last : Int}, mayI last l = true → ∀ i, i < l.length → last < (l.getD i default).seq
  | x :: l, last, h, i, hi => by
    unfold mayI at h
    split at h
    · cases h
    · rename_i hb
      unfold Itm.bad at hb
      cases i with
      | zero => simp; omega
      | succ i =>
        have := mayI_gt h i (by simpa using hi)
        simp only [List.getD_cons_succ]
        omega
theorem mayP_of : ∀ {l : List Itm} {last : Int}, 0 ≤ last → mayI last l = true → MayP l
  | [], _, _, _ => ⟨fun i h => by simp at h, fun i h => by simp at h, fun i h => by simp at h, fun i h => by simp at h, fun i j _ h => by simp at h⟩
  | x :: l, last, h0, h => by
    unfold mayI at h
    split at h
    · cases h
    · rename_i hb
      unfold Itm.bad at hb
      have ih := mayP_of (by omega) h
      have hg := mayI_gt h
      refine ⟨fun i hi => ?_, fun i hi => ?_, fun i hi => ?_, fun i hi => ?_, fun i j hij hj => ?_⟩
      · cases i with
        | zero => simp only [List.getD_cons_zero]; omega
        | succ i => simp only [List.getD_cons_succ]; exact ih.key i (by simpa using hi)
      · cases i with
        | zero => simp only [List.getD_cons_zero]; omega
        | succ i => simp only [List.getD_cons_succ]; exact ih.seq i (by simpa using hi)
      · cases i with
        | zero => simp only [List.getD_cons_zero]; omega
        | succ i => simp only [List.getD_cons_succ]; exact ih.kind i (by simpa using hi)
      · cases i with
        | zero => simp only [List.getD_cons_zero]; omega
        | succ i => simp only [List.getD_cons_succ]; exact ih.size i (by simpa using hi)
      · cases j with
        | zero => omega
        | succ j =>
          cases i with
          | zero => simp only [List.getD_cons_succ, List.getD_cons_zero]; exact hg j (by simpa using hj)
          | succ i => simp only [List.getD_cons_succ]; exact ih.up i j (by omega) (by simpa using hj)

/-! ### What is kept -/
def sameK (its : List Itm) (i j : Nat) : Bool := decide ((its.getD i default).key = (its.getD j default).key)
/-- An item is the newest one of its key at some number. -/
def seenAt (its : List Itm) (at_ : List Int) (i : Nat) : Bool :=
  at_.any fun s => decide ((its.getD i default).seq ≤ s) && (List.range its.length).all fun j => !(decide (i < j) && sameK its i j && decide ((its.getD j default).seq ≤ s))
def keptB (its : List Itm) (at_ : List Int) (i : Nat) : Bool :=
  seenAt its at_ i && (List.range (i + 1)).any fun j => sameK its i j && seenAt its at_ j && decide ((its.getD j default).kind = 1)
def keptI (its : List Itm) (at_ : List Int) : List Bool := (List.range its.length).map (keptB its at_)
theorem keptI_length (its : List Itm) (at_ : List Int) : (keptI its at_).length = its.length := by simp [keptI]
/-- The places of a print among the first 'n' items. -/
def rowK (its : List Itm) (n : Nat) (p : Pr) : List Nat := (List.range n).filter fun j => decide (prOf (its.getD j default).key = p)
theorem rowK_succ (its : List Itm) (n : Nat) (p : Pr) : rowK its (n + 1) p = if p = prOf (its.getD n default).key then rowK its n p ++ [n] else rowK its n p := by
  unfold rowK
  rw [List.range_succ, List.filter_append]
  by_cases h : p = prOf (its.getD n default).key
  · subst h; simp
  · rw [if_neg h, List.filter_cons_of_neg (by simpa using fun e => h e.symm)]; simp
theorem rowK_mem {its : List Itm} {n : Nat} {p : Pr} {j : Nat} : j ∈ rowK its n p ↔ j < n ∧ prOf (its.getD j default).key = p := by
  unfold rowK
  rw [List.mem_filter, List.mem_range, decide_eq_true_eq]
theorem rowK_up {its : List Itm} {n : Nat} {p : Pr} : (rowK its n p).Pairwise (· < ·) := List.Pairwise.filter _ List.pairwise_lt_range
theorem rowK_length (its : List Itm) (n : Nat) (p : Pr) : (rowK its n p).length ≤ n := by
  unfold rowK
  exact Nat.le_trans (List.length_filter_le _ _) (by simp)
def versR (its : List Itm) (row : List Nat) : List Vr := row.map fun j => ⟨(its.getD j default).seq, (its.getD j default).kind⟩
theorem versR_length (its : List Itm) (row : List Nat) : (versR its row).length = row.length := by simp [versR]
theorem versR_may {its : List Itm} (h : MayP its) : ∀ (row : List Nat) (last : Int), row.Pairwise (· < ·) → (∀ j ∈ row, j < its.length) → (∀ j ∈ row, last < (its.getD j default).seq) → mayFrom last (versR its row) = true
  | [], _, _, _, _ => rfl
  | j :: row, last, hp, hl, hg => by
    have hj := hl j List.mem_cons_self
    have h1 := hg j List.mem_cons_self
    have h2 := h.seq j hj
    have h3 := h.kind j hj
    rw [List.pairwise_cons] at hp
    have e : versR its (j :: row) = ⟨(its.getD j default).seq, (its.getD j default).kind⟩ :: versR its row := rfl
    rw [e, mayFrom, if_neg (by dsimp only; omega)]
    exact versR_may h row _ hp.2 (fun k hk => hl k (List.mem_cons_of_mem _ hk)) fun k hk => h.up j k (hp.1 k hk) (hl k (List.mem_cons_of_mem _ hk))
/-- What of the seen ones is kept, one by one. -/
theorem keptL_at : ∀ (o : Bool) (l : List Vr) (bs : List Bool) (k : Nat) (v : Vr) (b : Bool), l[k]? = some v → bs[k]? = some b →
    (keptL o l bs)[k]? = some (b && (o || (List.range (k + 1)).any fun m => bs.getD m false && decide ((l.getD m ⟨0, 0⟩).kind = 1)))
  | o, x :: l, c :: bs, 0, v, b, hv, hb => by
    simp at hv hb
    subst hv; subst hb
    simp [keptL]
  | o, x :: l, c :: bs, k + 1, v, b, hv, hb => by
    have ih := keptL_at (o || (c && decide (x.kind = 1))) l bs k v b (by simpa using hv) (by simpa using hb)
    rw [keptL, List.getElem?_cons_succ, ih]
    congr 2
    rw [Bool.or_assoc]
    congr 1
    rw [show List.range (k + 1 + 1) = 0 :: (List.range (k + 1)).map Nat.succ by rw [List.range_succ_eq_map]]
    rw [List.any_cons, List.any_map]
    rfl
theorem row_at {row : List Nat} (hp : row.Pairwise (· < ·)) {a b i j : Nat} (ha : row[a]? = some i) (hb : row[b]? = some j) : i < j ↔ a < b := by
  obtain ⟨h1, rfl⟩ := List.getElem?_eq_some_iff.1 ha
  obtain ⟨h2, rfl⟩ := List.getElem?_eq_some_iff.1 hb
  have g := List.pairwise_iff_getElem.1 hp
  constructor
  · intro h
    rcases Nat.lt_trichotomy a b with hh | hh | hh
    · exact hh
    · subst hh; omega
    · have := g b a h2 h1 hh; omega
  · exact g a b h1 h2
/-- Kept among its row is kept. -/
theorem keptL_row {its : List Itm} (h : MayP its) (hb : ∀ i, i < its.length → ∀ c ∈ (its.getD i default).key, c < 256) (at_ : List Int) (p : Pr) {k i : Nat} (hk : (rowK its its.length p)[k]? = some i) :
    (keptL false (versR its (rowK its its.length p)) (seenL (versR its (rowK its its.length p)) at_))[k]? = some (keptB its at_ i) := by
  have hup := rowK_up (its := its) (n := its.length) (p := p)
  have hlt : ∀ j ∈ rowK its its.length p, j < its.length := fun j hj => (rowK_mem.1 hj).1
  have hmay := versR_may h (rowK its its.length p) 0 hup hlt fun j hj => (h.seq j (hlt j hj)).1
  have same : ∀ i j, i ∈ rowK its its.length p → j < its.length → (sameK its i j = true ↔ j ∈ rowK its its.length p) := by
    intro i j hi hj
    obtain ⟨h1, h2⟩ := rowK_mem.1 hi
    unfold sameK
    rw [decide_eq_true_eq, rowK_mem]
    constructor
    · intro e; exact ⟨hj, by rw [← e]; exact h2⟩
    · rintro ⟨_, e⟩
      exact prOf_inj (hb i h1) (hb j hj) (h.key i h1).2 (by rw [h2, e])
  generalize rowK its its.length p = row at hk hup hlt hmay same
  have hvl := versR_length its row
  have hseen : ∀ (m j : Nat), row[m]? = some j → (seenL (versR its row) at_)[m]? = some (seenAt its at_ j) := by
    intro m j hj
    have hml := (List.getElem?_eq_some_iff.1 hj).1
    have hjm := List.mem_of_getElem? hj
    unfold seenL
    rw [List.getElem?_map, List.getElem?_range (by omega), Option.map_some]
    congr 1
    unfold seenAt
    congr 1
    funext s
    rw [Bool.eq_iff_iff, decide_eq_true_eq, Bool.and_eq_true, decide_eq_true_eq, List.all_eq_true]
    have sp : ∀ (a b : Nat), row[a]? = some b → ((its.getD b default).seq ≤ s ↔ a < bh (versR its row) s) := fun (a b : Nat) (hab : row[a]? = some b) => bh_spec (s := s) hmay a ⟨(its.getD b default).seq, (its.getD b default).kind⟩ (by unfold versR; rw [List.getElem?_map, hab]; rfl)
    have hbl := bh_le (versR its row) s
    constructor
    · intro e
      refine ⟨(sp m j hj).2 (by omega), fun j' hj' => ?_⟩
      have hj' := List.mem_range.1 hj'
      rw [Bool.not_eq_true', Bool.and_eq_false_iff, Bool.and_eq_false_iff]
      by_cases h1 : j < j'
      · cases h2 : sameK its j j' with
        | false => exact .inl (.inr rfl)
        | true =>
          right
          have hm' := (same j j' hjm hj').1 h2
          obtain ⟨m', hm'⟩ := List.getElem?_of_mem hm'
          have := (row_at hup hj hm').1 h1
          have := sp m' j' hm'
          exact decide_eq_false (by omega)
      · exact .inl (.inl (decide_eq_false h1))
    · rintro ⟨h1, h2⟩
      have h1 := (sp m j hj).1 h1
      rcases Nat.lt_or_ge (m + 1) (bh (versR its row) s) with h3 | h3
      · exfalso
        have hm1 : m + 1 < row.length := by omega
        have hg := List.getElem?_eq_getElem hm1
        have hgm := List.getElem_mem hm1
        have h4 := (sp (m + 1) _ hg).2 h3
        have h5 := h2 _ (List.mem_range.2 (hlt _ hgm))
        have h6 := (row_at hup hj hg).2 (by omega)
        rw [(same j _ hjm (hlt _ hgm)).2 hgm, decide_eq_true h6, decide_eq_true h4] at h5
        cases h5
      · omega
  have hkl := (List.getElem?_eq_some_iff.1 hk).1
  have him := List.mem_of_getElem? hk
  rw [keptL_at false (versR its row) (seenL (versR its row) at_) k ⟨(its.getD i default).seq, (its.getD i default).kind⟩ _ (by unfold versR; rw [List.getElem?_map, hk]; rfl) (hseen k i hk)]
  congr 1
  unfold keptB
  congr 1
  rw [Bool.false_or, Bool.eq_iff_iff, List.any_eq_true, List.any_eq_true]
  constructor
  · rintro ⟨m, hm, he⟩
    have hm := List.mem_range.1 hm
    have hml : m < row.length := by omega
    have hg := List.getElem?_eq_getElem hml
    have hgm := List.getElem_mem hml
    rw [List.getD_eq_getElem?_getD, hseen m _ hg, Option.getD_some, List.getD_eq_getElem?_getD] at he
    unfold versR at he
    rw [List.getElem?_map, hg, Option.map_some, Option.getD_some] at he
    refine ⟨row[m], List.mem_range.2 ?_, ?_⟩
    · rcases Nat.lt_or_ge i row[m] with h1 | h1
      · have := (row_at hup hk hg).1 h1; omega
      · omega
    · rw [(same i _ him (hlt _ hgm)).2 hgm, Bool.true_and]; exact he
  · rintro ⟨j, hj, he⟩
    have hj := List.mem_range.1 hj
    rw [Bool.and_eq_true, Bool.and_eq_true] at he
    have hil := hlt i him
    have hjm := (same i j him (by omega)).1 he.1.1
    obtain ⟨m, hm⟩ := List.getElem?_of_mem hjm
    refine ⟨m, List.mem_range.2 ?_, ?_⟩
    · rcases Nat.lt_or_ge k m with h1 | h1
      · have := (row_at hup hk hm).2 h1; omega
      · omega
    · rw [List.getD_eq_getElem?_getD, hseen m _ hm, Option.getD_some, List.getD_eq_getElem?_getD]
      unfold versR
      rw [List.getElem?_map, hm, Option.map_some, Option.getD_some, he.1.2, he.2]
      rfl
end Go.Proofs.Ytbcmoikpmmjlkaa
