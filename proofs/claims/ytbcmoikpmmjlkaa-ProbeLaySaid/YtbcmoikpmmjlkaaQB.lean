/- Law 14: the plain law of a table of slots (linear probing, the one farther from home first). -/
import Derived.Test.YtbcmoikpmmjlkaaQA
namespace Go.Proofs.Ytbcmoikpmmjlkaa
open Go Eng
set_option maxRecDepth 100000
/-! ### Going round -/
theorem md_add {n a b : Nat} (h : a % n = b % n) (c : Nat) : (a + c) % n = (b + c) % n := by rw [Nat.add_mod, h, ← Nat.add_mod]
theorem md_cancel {n a b c : Nat} (hn : 0 < n) (h : (a + c) % n = (b + c) % n) : a % n = b % n := by
  have h1 := md_add h (n - c % n)
  have hlt := Nat.mod_lt c hn
  have hd := Nat.div_add_mod c n
  have e : ∀ x, (x + c + (n - c % n)) % n = x % n := fun x => by
    have : x + c + (n - c % n) = x + n * (c / n + 1) := by rw [Nat.mul_add, Nat.mul_one]; omega
    rw [this, Nat.add_mul_mod_self_left]
  rwa [e, e] at h1
theorem md_inj {n q i j : Nat} (hi : i < n) (hj : j < n) (h : (q + i) % n = (q + j) % n) : i = j := by
  rw [Nat.add_comm q i, Nat.add_comm q j] at h
  have := md_cancel (by omega) h
  rwa [Nat.mod_eq_of_lt hi, Nat.mod_eq_of_lt hj] at this
theorem md_succ {n q : Nat} (hn : 2 ≤ n) : (q + 1) % n ≠ q % n := fun h => by
  have := md_inj (i := 1) (j := 0) (q := q) (n := n) (by omega) (by omega) (by simpa using h)
  omega
theorem md_two {n q : Nat} (hn : 3 ≤ n) : (q + 2) % n ≠ q % n := fun h => by
  have := md_inj (i := 2) (j := 0) (q := q) (n := n) (by omega) (by omega) (by simpa using h)
  omega
/-- From any place on, every place is come to. -/
theorem md_reach {n : Nat} (hn : 0 < n) (q p : Nat) : ∃ m, m < n ∧ (q + m) % n = p % n := by
  refine ⟨(p + (n - q % n)) % n, Nat.mod_lt _ hn, ?_⟩
  have hlt := Nat.mod_lt q hn
  have hd := Nat.div_add_mod q n
  rw [Nat.add_mod, Nat.mod_mod, ← Nat.add_mod]
  have : q + (p + (n - q % n)) = p + n * (q / n + 1) := by rw [Nat.mul_add, Nat.mul_one]; omega
  rw [this, Nat.add_mul_mod_self_left]
/-! ### Slots -/
structure Pm where
  used : Bool
  ka : Option Addr
  kc : Nat
  key : List Nat
  n : Int
  far : Nat
def zPm : Pm := ⟨false, none, 0, [], 0, 0⟩
instance : Inhabited Pm := ⟨zPm⟩
def sl (L : List Pm) (i : Nat) : Pm := L.getD (i % L.length) zPm
theorem sl_congr {L : List Pm} {p q : Nat} (h : p % L.length = q % L.length) : sl L p = sl L q := by unfold sl; rw [h]
theorem sl_set {L : List Pm} {n q p : Nat} {x : Pm} (hl : L.length = n) (hn : 0 < n) : sl (L.set (q % n) x) p = if p % n = q % n then x else sl L p := by
  subst hl
  unfold sl
  rw [List.length_set, List.getD_eq_getElem?_getD, List.getElem?_set]
  have h1 := Nat.mod_lt q hn
  by_cases h : q % L.length = p % L.length
  · rw [if_pos h, if_pos h1, if_pos h.symm]; rfl
  · rw [if_neg h, if_neg (fun e => h e.symm)]; simp [List.getD_eq_getElem?_getD]
theorem sl_mem {L : List Pm} (h : 0 < L.length) (p : Nat) : sl L p ∈ L := by
  unfold sl
  have := Nat.mod_lt p h
  rw [List.getD_eq_getElem?_getD, List.getElem?_eq_getElem this]
  exact List.getElem_mem this
/-- What stands ahead of one that is so far from its home. -/
def Before (x : Pm) (f : Nat) (k : List Nat) : Prop := x.used = true ∧ f ≤ x.far + 1 ∧ (f = x.far + 1 → ltK x.key k = true)
def aheadB (k : List Nat) (f : Nat) (s : Pm) : Bool := !s.used || decide (s.far < f) || (decide (f = s.far) && ltK k s.key)
def stopB (k : List Nat) (f : Nat) (s : Pm) : Bool := aheadB k f s || decide (k = s.key)
/-- A table's lay. -/
structure Tb (h : List Nat → Nat) (n : Nat) (L : List Pm) : Prop where
  len : L.length = n
  home : ∀ p, (sl L p).used = true → (h (sl L p).key + (sl L p).far) % n = p % n
  prev : ∀ p, (sl L (p + 1)).used = true → 0 < (sl L (p + 1)).far → Before (sl L p) (sl L (p + 1)).far (sl L (p + 1)).key
variable {h : List Nat → Nat} {n : Nat} {L : List Pm}
theorem Tb.chain (t : Tb h n L) {c f : Nat} {x : Pm} (hx : sl L (c + f) = x) (hu : x.used = true) (hf : x.far = f) : ∀ d, d ≤ f → (sl L (c + (f - d))).used = true ∧ f - d ≤ (sl L (c + (f - d))).far ∧ (0 < d → (sl L (c + (f - d))).far = f - d → ltK (sl L (c + (f - d))).key x.key = true)
  | 0, _ => by rw [Nat.sub_zero, hx]; exact ⟨hu, by omega, fun h => absurd h (by omega)⟩
  | d + 1, hd => by
    obtain ⟨h1, h2, h3⟩ := t.chain hx hu hf d (by omega)
    have e : c + (f - d) = c + (f - (d + 1)) + 1 := by omega
    rw [e] at h1 h2 h3
    obtain ⟨g1, g2, g3⟩ := t.prev (c + (f - (d + 1))) h1 (by omega)
    refine ⟨g1, by omega, fun _ he => ?_⟩
    have hl := g3 (by omega)
    by_cases h0 : d = 0
    · subst h0
      have e2 : sl L (c + (f - (0 + 1)) + 1) = x := by rw [← hx]; congr 1; omega
      rwa [e2] at hl
    · exact ltK_trans hl (h3 (by omega) (by omega))
/-- A key that is there stands nearer to its home than there are slots. -/
theorem Tb.far_lt (t : Tb h n L) (hn : 0 < n) {u : Nat} (hu : (sl L u).used = false) {p : Nat} (hp : (sl L p).used = true) : (sl L p).far < n := by
  refine Classical.byContradiction fun hge => ?_
  have hh := t.home p hp
  have hx : sl L (h (sl L p).key + (sl L p).far) = sl L p := sl_congr (by rw [t.len]; exact hh)
  obtain ⟨m, hm, hr⟩ := md_reach hn (h (sl L p).key) u
  have := (t.chain hx hp rfl ((sl L p).far - m) (by omega)).1
  rw [show h (sl L p).key + ((sl L p).far - ((sl L p).far - m)) = h (sl L p).key + m by omega, sl_congr (q := u) (by rw [t.len]; exact hr), hu] at this
  cases this
/-- Where a key is there, it is found there. -/
theorem Tb.found (t : Tb h n L) (hn : 0 < n) {u : Nat} (hu : (sl L u).used = false) {p : Nat} (hp : (sl L p).used = true) {F : Nat} (h1 : ∀ g, g < F → stopB (sl L p).key g (sl L (h (sl L p).key + g)) = false)
    (h2 : stopB (sl L p).key F (sl L (h (sl L p).key + F)) = true) : F = (sl L p).far := by
  have hh := t.home p hp
  have hx : sl L (h (sl L p).key + (sl L p).far) = sl L p := sl_congr (by rw [t.len]; exact hh)
  have hlt := t.far_lt hn hu hp
  have hstop : stopB (sl L p).key (sl L p).far (sl L (h (sl L p).key + (sl L p).far)) = true := by
    unfold stopB; rw [hx]; simp
  have hno : ∀ g, g < (sl L p).far → stopB (sl L p).key g (sl L (h (sl L p).key + g)) = false := by
    intro g hg
    obtain ⟨a1, a2, a3⟩ := t.chain hx hp rfl ((sl L p).far - g) (by omega)
    rw [show h (sl L p).key + ((sl L p).far - ((sl L p).far - g)) = h (sl L p).key + g by omega] at a1 a2 a3
    have a2 : g ≤ (sl L (h (sl L p).key + g)).far := by omega
    have a3 : (sl L (h (sl L p).key + g)).far = g → ltK (sl L (h (sl L p).key + g)).key (sl L p).key = true := fun e => a3 (by omega) (by omega)
    have a4 := t.home _ a1
    have a5 := t.far_lt hn hu a1
    generalize sl L (h (sl L p).key + g) = y at a1 a2 a3 a4 a5
    generalize sl L p = x at *
    have hk : x.key ≠ y.key := by
      intro e
      rw [← e] at a4
      have := md_inj a5 (by omega) a4
      have := a3 this
      rw [e, ltK_irrefl] at this
      cases this
    unfold stopB aheadB
    rw [a1, decide_eq_false (by omega), decide_eq_false hk]
    simp
    intro e
    exact ltK_asymm (a3 e.symm)
  rcases Nat.lt_trichotomy F (sl L p).far with hl | hl | hl
  · rw [hno F hl] at h2; cases h2
  · exact hl
  · rw [h1 _ hl] at hstop; cases hstop
/-- One place a key. -/
theorem Tb.uniq (t : Tb h n L) (hn : 0 < n) {u : Nat} (hu : (sl L u).used = false) {p q : Nat} (hp : (sl L p).used = true) (hq : (sl L q).used = true) (hk : (sl L p).key = (sl L q).key) : p % n = q % n := by
  have hh := t.home p hp
  have hx : sl L (h (sl L p).key + (sl L p).far) = sl L p := sl_congr (by rw [t.len]; exact hh)
  have key : ∀ F, (∀ g, g < F → stopB (sl L p).key g (sl L (h (sl L p).key + g)) = false) → (sl L p).far ≤ F ∨ stopB (sl L p).key F (sl L (h (sl L p).key + F)) = false := by
    intro F hF
    cases hs : stopB (sl L p).key F (sl L (h (sl L p).key + F)) with
    | false => exact .inr rfl
    | true => exact .inl (Nat.le_of_eq (t.found hn hu hp hF hs).symm)
  have hall : ∀ F, F ≤ (sl L p).far → ∀ g, g < F → stopB (sl L p).key g (sl L (h (sl L p).key + g)) = false := by
    intro F
    induction F with
    | zero => intro _ g hg; omega
    | succ F ih =>
      intro hF g hg
      rcases Nat.lt_or_ge g F with hl | hl
      · exact ih (by omega) g hl
      · obtain rfl : g = F := by omega
        rcases key g (ih (by omega)) with h1 | h1
        · omega
        · exact h1
  have hstop : stopB (sl L p).key (sl L p).far (sl L (h (sl L p).key + (sl L p).far)) = true := by
    unfold stopB; rw [hx]; simp
  have hf := hall _ (Nat.le_refl _)
  rw [hk] at hf hstop
  have := t.found hn hu hq hf hstop
  rw [← hh, ← t.home q hq, hk, this]
/-! ### Laying -/
structure Jl (h : List Nat → Nat) (n : Nat) (L : List Pm) (q : Nat) (one : Pm) : Prop where
  len : L.length = n
  home : ∀ p, (sl L p).used = true → (h (sl L p).key + (sl L p).far) % n = p % n
  prev : ∀ p, (p + 1) % n ≠ q % n → (sl L (p + 1)).used = true → 0 < (sl L (p + 1)).far → Before (sl L p) (sl L (p + 1)).far (sl L (p + 1)).key
  used : one.used = true
  ohome : (h one.key + one.far) % n = q % n
  oprev : ∀ p, (p + 1) % n = q % n → 0 < one.far → Before (sl L p) one.far one.key
  oahead : aheadB one.key one.far (sl L q) = true
theorem Jl.step {q : Nat} {one : Pm} (j : Jl h n L q one) (hn : 2 ≤ n) (ht : (sl L q).used = true) : Jl h n (L.set (q % n) one) (q + 1) { sl L q with far := (sl L q).far + 1 } := by
  have hs : ∀ p, sl (L.set (q % n) one) p = if p % n = q % n then one else sl L p := fun p => sl_set j.len (by omega)
  have ha := j.oahead
  unfold aheadB at ha
  rw [ht] at ha
  simp only [Bool.not_true, Bool.false_or, Bool.or_eq_true, Bool.and_eq_true, decide_eq_true_eq] at ha
  refine ⟨by rw [List.length_set]; exact j.len, fun p hp => ?_, fun p h1 h2 h3 => ?_, ht, ?_, fun p h1 _ => ?_, ?_⟩
  · rw [hs] at hp ⊢
    by_cases he : p % n = q % n
    · rw [if_pos he]; rw [j.ohome, he]
    · rw [if_neg he] at hp ⊢; exact j.home p hp
  · have hpq : p % n ≠ q % n := fun e => h1 (md_add e 1)
    rw [hs p, if_neg hpq]
    rw [hs] at h2 h3 ⊢
    by_cases he : (p + 1) % n = q % n
    · rw [if_pos he] at h2 h3 ⊢; exact j.oprev p he h3
    · rw [if_neg he] at h2 h3 ⊢; exact j.prev p he h2 h3
  · dsimp only
    rw [← Nat.add_assoc]
    exact md_add (j.home q ht) 1
  · have hpq : p % n = q % n := md_cancel (by omega) h1
    rw [hs, if_pos hpq]
    dsimp only
    refine ⟨j.used, by omega, fun e => ?_⟩
    rcases ha with ha | ha
    · omega
    · exact ha.2
  · rw [hs, if_neg (md_succ hn)]
    dsimp only
    unfold aheadB
    cases hu : (sl L (q + 1)).used with
    | false => simp
    | true =>
      by_cases h0 : (sl L (q + 1)).far = 0
      · rw [h0]; simp
      · obtain ⟨b1, b2, b3⟩ := j.prev q (md_succ hn) hu (by omega)
        simp only [Bool.not_true, Bool.false_or, Bool.or_eq_true, Bool.and_eq_true, decide_eq_true_eq]
        by_cases he : (sl L (q + 1)).far = (sl L q).far + 1
        · exact .inr ⟨he.symm, b3 he⟩
        · exact .inl (by omega)
theorem Jl.done {q : Nat} {one : Pm} (j : Jl h n L q one) (hn : 2 ≤ n) (ht : (sl L q).used = false) : Tb h n (L.set (q % n) one) := by
  have hs : ∀ p, sl (L.set (q % n) one) p = if p % n = q % n then one else sl L p := fun p => sl_set j.len (by omega)
  refine ⟨by rw [List.length_set]; exact j.len, fun p hp => ?_, fun p h2 h3 => ?_⟩
  · rw [hs] at hp ⊢
    by_cases he : p % n = q % n
    · rw [if_pos he]; rw [j.ohome, he]
    · rw [if_neg he] at hp ⊢; exact j.home p hp
  · by_cases hpq : p % n = q % n
    · have e1 : (p + 1) % n = (q + 1) % n := md_add hpq 1
      have hne : (p + 1) % n ≠ q % n := by rw [e1]; exact md_succ hn
      rw [hs, if_neg hne] at h2 h3
      have hb := j.prev p hne h2 h3
      rw [sl_congr (q := q) (by rw [j.len]; exact hpq)] at hb
      rw [hb.1] at ht; cases ht
    · rw [hs p, if_neg hpq]
      rw [hs] at h2 h3 ⊢
      by_cases he : (p + 1) % n = q % n
      · rw [if_pos he] at h2 h3 ⊢; exact j.oprev p he h3
      · rw [if_neg he] at h2 h3 ⊢; exact j.prev p he h2 h3
/-- Where a key that is not there is laid. -/
theorem Tb.lay (t : Tb h n L) (hn : 2 ≤ n) {k : List Nat} (hk : ∀ p, (sl L p).used = true → (sl L p).key ≠ k) {F : Nat} (h1 : ∀ g, g < F → stopB k g (sl L (h k + g)) = false) (h2 : stopB k F (sl L (h k + F)) = true)
    {one : Pm} (o1 : one.used = true) (o2 : one.key = k) (o3 : one.far = F) : Jl h n L (h k + F) one := by
  subst o2; subst o3
  refine ⟨t.len, t.home, fun p _ => t.prev p, o1, rfl, fun p hp h0 => ?_, ?_⟩
  · have e : (p + 1) % n = (h one.key + (one.far - 1) + 1) % n := by rw [hp]; congr 1; omega
    have e := md_cancel (by omega) e
    rw [sl_congr (q := h one.key + (one.far - 1)) (by rw [t.len]; exact e)]
    have hs := h1 (one.far - 1) (by omega)
    generalize sl L (h one.key + (one.far - 1)) = y at hs
    unfold stopB aheadB at hs
    simp only [Bool.or_eq_false_iff, Bool.and_eq_false_iff, Bool.not_eq_false', decide_eq_false_iff_not] at hs
    obtain ⟨⟨⟨s1, s2⟩, s3⟩, s4⟩ := hs
    refine ⟨s1, by omega, fun e => ?_⟩
    rcases s3 with s3 | s3
    · omega
    · exact ltK_total s4 s3
  · unfold stopB at h2
    rw [Bool.or_eq_true] at h2
    rcases h2 with h2 | h2
    · exact h2
    · have h2 := of_decide_eq_true h2
      cases hu : (sl L (h one.key + one.far)).used with
      | true => exact absurd h2.symm (hk _ hu)
      | false => unfold aheadB; rw [hu]; rfl
/-! ### Removing -/
structure Jr (h : List Nat → Nat) (n : Nat) (L : List Pm) (q : Nat) : Prop where
  len : L.length = n
  home : ∀ p, p % n ≠ q % n → (sl L p).used = true → (h (sl L p).key + (sl L p).far) % n = p % n
  prev : ∀ p, p % n ≠ q % n → (p + 1) % n ≠ q % n → (sl L (p + 1)).used = true → 0 < (sl L (p + 1)).far → Before (sl L p) (sl L (p + 1)).far (sl L (p + 1)).key
  hole : ∀ p, (p + 1) % n = q % n → (sl L (q + 1)).used = true → 1 < (sl L (q + 1)).far → Before (sl L p) ((sl L (q + 1)).far - 1) (sl L (q + 1)).key
theorem Tb.remove (t : Tb h n L) (q : Nat) (hq : (sl L q).used = true) : Jr h n L q := by
  refine ⟨t.len, fun p _ => t.home p, fun p _ _ => t.prev p, fun p hp hu h1 => ?_⟩
  obtain ⟨a1, a2, a3⟩ := t.prev q hu (by omega)
  have e : sl L (p + 1) = sl L q := sl_congr (by rw [t.len]; exact hp)
  have hb := t.prev p (by rw [e]; exact hq) (by rw [e]; omega)
  rw [e] at hb
  obtain ⟨b1, b2, b3⟩ := hb
  refine ⟨b1, by omega, fun he => ?_⟩
  exact ltK_trans (b3 (by omega)) (a3 (by omega))
theorem Jr.step {q : Nat} (j : Jr h n L q) (hn : 3 ≤ n) (ht : (sl L (q + 1)).used = true) (hf : 0 < (sl L (q + 1)).far) : Jr h n (L.set (q % n) { sl L (q + 1) with far := (sl L (q + 1)).far - 1 }) (q + 1) := by
  have hs : ∀ p, sl (L.set (q % n) { sl L (q + 1) with far := (sl L (q + 1)).far - 1 }) p = if p % n = q % n then { sl L (q + 1) with far := (sl L (q + 1)).far - 1 } else sl L p := fun p => sl_set j.len (by omega)
  refine ⟨by rw [List.length_set]; exact j.len, fun p h1 hp => ?_, fun p h0 h1 h2 h3 => ?_, fun p h1 h2 h3 => ?_⟩
  · rw [hs] at hp ⊢
    by_cases he : p % n = q % n
    · rw [if_pos he]
      dsimp only
      have hh := j.home (q + 1) (md_succ (by omega)) ht
      rw [show h (sl L (q + 1)).key + (sl L (q + 1)).far = h (sl L (q + 1)).key + ((sl L (q + 1)).far - 1) + 1 by omega] at hh
      rw [md_cancel (by omega) hh, he]
    · rw [if_neg he] at hp ⊢; exact j.home p he hp
  · have hpq : p % n ≠ q % n := fun e => h1 (md_add e 1)
    rw [hs p, if_neg hpq]
    rw [hs] at h2 h3 ⊢
    by_cases he : (p + 1) % n = q % n
    · rw [if_pos he] at h2 h3 ⊢
      dsimp only at h3 ⊢
      exact j.hole p he ht (by omega)
    · rw [if_neg he] at h2 h3 ⊢; exact j.prev p hpq he h2 h3
  · have hpq : p % n = q % n := md_cancel (by omega) h1
    have h2q : (q + 1 + 1) % n ≠ q % n := md_two hn
    rw [hs p, if_pos hpq]
    rw [hs, if_neg h2q] at h2 h3 ⊢
    obtain ⟨b1, b2, b3⟩ := j.prev (q + 1) (md_succ (by omega)) h2q h2 (by omega)
    refine ⟨ht, ?_, fun he => ?_⟩
    · dsimp only; omega
    · dsimp only at he ⊢; exact b3 (by omega)
theorem Jr.done {q : Nat} (j : Jr h n L q) (hn : 2 ≤ n) (ht : (sl L (q + 1)).used = false ∨ (sl L (q + 1)).far = 0) : Tb h n (L.set (q % n) zPm) := by
  have hs : ∀ p, sl (L.set (q % n) zPm) p = if p % n = q % n then zPm else sl L p := fun p => sl_set j.len (by omega)
  refine ⟨by rw [List.length_set]; exact j.len, fun p hp => ?_, fun p h2 h3 => ?_⟩
  · rw [hs] at hp ⊢
    by_cases he : p % n = q % n
    · rw [if_pos he] at hp; cases hp
    · rw [if_neg he] at hp ⊢; exact j.home p he hp
  · rw [hs (p + 1)] at h2 h3 ⊢
    by_cases he : (p + 1) % n = q % n
    · rw [if_pos he] at h2; cases h2
    · rw [if_neg he] at h2 h3 ⊢
      by_cases hpq : p % n = q % n
      · rw [sl_congr (q := q + 1) (by rw [j.len]; exact md_add hpq 1)] at h2 h3
        rcases ht with ht | ht
        · rw [h2] at ht; cases ht
        · omega
      · rw [hs, if_neg hpq]; exact j.prev p hpq he h2 h3
end Go.Proofs.Ytbcmoikpmmjlkaa
