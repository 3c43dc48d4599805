/- Seen: what May, behind, Newest, There, Seen and Kept compute. -/
import Derived.Test.YtbcmoikpmmjlkaaN
namespace Go.Proofs.Ytbcmoikpmmjlkaa
open Go Eng
set_option maxRecDepth 100000
structure Vr where
  seq : Int
  kind : Int
  deriving DecidableEq
def encV (v : Vr) : List Value := [.int .u64 v.seq, .int .i64 v.kind]
theorem encV_ok : Enc 2 encV := ⟨fun _ => rfl, fun x u hu => by simp [encV] at hu; rcases hu with rfl | rfl <;> rfl, by decide⟩
def mayFrom : Int → List Vr → Bool
  | _, [] => true
  | last, v :: l => if v.seq ≤ last ∨ 1099511627776 < v.seq ∨ (v.kind ≠ 1 ∧ v.kind ≠ 2) then false else mayFrom v.seq l
/-- seen.May. -/
theorem s53 {w : World} {v : Value} {l : List Vr} (h : Rd w 2 encV v l) (hl : l.length ≤ 1000000) {R : Value → World → Prop} (hR : ∀ w', Bel w w' → R (.bool (mayFrom 0 l)) w') : F53 v w R := by
  obtain ⟨a, c, rfl⟩ := h.form
  unfold F53
  simp
  refine ⟨fun s u => ∃ (i : Nat) (last : Int), s = [.int .u64 last, .int .i64 (i : Nat)] ∧ i ≤ l.length ∧ Bel w u ∧ mayFrom 0 l = mayFrom last (l.drop i), fun s _ => (l.length + 1 - n0 s 1).toNat, ⟨0, 0, rfl, by omega, br w, rfl⟩, ?_⟩
  rintro s u ⟨i, last, rfl, hi, hu, hm⟩
  simp
  refine ifD (fun h1 => ?_) (fun h1 => ?_)
  · obtain ⟨b, o, c2, ⟨off, ho, hsl⟩, hat⟩ := (h.bel hu).at (List.getElem?_eq_getElem h1)
    injection hsl with hsl _ _
    subst hsl
    have hd : l.drop i = l[i] :: l.drop (i + 1) := List.drop_eq_getElem_cons h1
    rw [hd, mayFrom] at hm
    generalize l[i] = x at hat hm
    rw [idxR (T := 53) (k := 2) (by kernel_rfl) h1, ← ho]
    simp [hat.cells0, encV]
    have hx := bx hu [.cells #[.int .u64 x.seq, .int .i64 x.kind] 55]
    have e6 : IntKind.i64.wrap ((i : Int) + 1) = ((i + 1 : Nat) : Int) := wrap_i64 (by omega) (by omega)
    refine ifD (fun h2 => ?_) (fun h2 => ?_)
    · rw [if_pos (.inl h2)] at hm
      rw [← hm]; exact hR _ hx
    · refine ifD (fun h3 => ?_) (fun h3 => ?_)
      · rw [if_pos (.inr (.inl h3))] at hm
        rw [← hm]; exact hR _ hx
      · have go : ¬ (x.kind ≠ 1 ∧ x.kind ≠ 2) → mayFrom 0 l = mayFrom x.seq (l.drop (i + 1)) := fun h4 => by
          rw [hm, if_neg (by rintro (h | h | h); exact h2 h; exact h3 h; exact h4 h)]
        rw [e6]
        refine ifB (fun h4 => ?_) (fun h4 => ?_)
        · have h4 : ¬ x.kind = 1 := by simpa using h4
          refine ifB (fun h5 => ?_) (fun h5 => ?_)
          · have h5 : ¬ x.kind = 2 := by simpa using h5
            rw [if_pos (.inr (.inr ⟨h4, h5⟩))] at hm
            rw [← hm]; exact hR _ hx
          · have h5 : x.kind = 2 := by simpa using h5
            exact ⟨⟨i + 1, x.seq, ⟨rfl, rfl⟩, h1, hx, go (fun h => h.2 h5)⟩, by simp [n0]; omega⟩
        · have h4 : x.kind = 1 := by simpa using h4
          exact ⟨⟨i + 1, x.seq, ⟨rfl, rfl⟩, h1, hx, go (fun h => h.1 h4)⟩, by simp [n0]; omega⟩
  · have : l.drop i = [] := List.drop_eq_nil_of_le (by omega)
    rw [this] at hm
    have := hR u hu
    rw [hm] at this
    exact this
theorem mayFrom_cons {last : Int} {v : Vr} {l : List Vr} (h : mayFrom last (v :: l) = true) : last < v.seq ∧ v.seq ≤ 1099511627776 ∧ (v.kind = 1 ∨ v.kind = 2) ∧ mayFrom v.seq l = true := by
  unfold mayFrom at h
  split at h
  · cases h
  · rename_i hn
    exact ⟨by omega, by omega, by omega, h⟩
theorem mayFrom_gt : ∀ {l : List Vr} {last : Int}, mayFrom last l = true → ∀ x ∈ l, last < x.seq
  | v :: l, last, h, x, hx => by
    obtain ⟨h1, _, _, h2⟩ := mayFrom_cons h
    rcases List.mem_cons.1 hx with rfl | hx
    · exact h1
    · have := mayFrom_gt h2 x hx; omega
/-- How many versions are at most at a number. -/
def bh (l : List Vr) (s : Int) : Nat := (l.filter fun v => decide (v.seq ≤ s)).length
theorem bh_le (l : List Vr) (s : Int) : bh l s ≤ l.length := List.length_filter_le _ _
theorem bh_spec {s : Int} : ∀ {l : List Vr} {last : Int}, mayFrom last l = true → ∀ (j : Nat) (x : Vr), l[j]? = some x → (x.seq ≤ s ↔ j < bh l s)
  | v :: l, last, h, j, x, hx => by
    obtain ⟨h1, _, _, h2⟩ := mayFrom_cons h
    unfold bh
    by_cases hv : v.seq ≤ s
    · rw [List.filter_cons_of_pos (by simpa using hv), List.length_cons]
      cases j with
      | zero => simp at hx; subst hx; simp [hv]
      | succ j =>
        have := bh_spec (s := s) h2 j x (by simpa using hx)
        unfold bh at this
        omega
    · rw [List.filter_cons_of_neg (by simpa using hv)]
      have h0 : l.filter (fun v => decide (v.seq ≤ s)) = [] := List.filter_eq_nil_iff.2 fun y hy => by
        have := mayFrom_gt h2 y hy
        simp; omega
      rw [h0]
      have hge : v.seq ≤ x.seq := by
        cases j with
        | zero => simp at hx; subst hx; omega
        | succ j => have := mayFrom_gt h2 x (List.mem_of_getElem? (by simpa using hx)); omega
      simp; omega
theorem pure_shr1 (P : Program) (T : TypeId) (n : Nat) (K : Value → Prop) : pureP P (binS .shr T (.int .u64 (n : Nat)) (.int .u64 1)) K ↔ K (.int .u64 ((n / 2 : Nat) : Int)) := pureP_of fun w => by
  show (Op.shift .shr .u64 (n : Nat) .u64 1).run P w = _
  unfold Op.shift
  rw [if_neg (by decide)]
  show Result.ok (Value.int .u64 (Int.fdiv (n : Int) 2)) w = _
  rw [Int.fdiv_eq_ediv_of_nonneg _ (by decide)]
  rfl
/-- seen.behind, by sort.Search. -/
theorem s54 {w : World} {v : Value} {l : List Vr} (h : Rd w 2 encV v l) (hl : l.length ≤ 1000000) (hm : mayFrom 0 l = true) {s : Int} {R : Value → World → Prop} (hR : ∀ w', Bel w w' → R (.int .i64 (bh l s)) w') : F54 v (.int .u64 s) w R := by
  obtain ⟨a, c, rfl⟩ := h.form
  unfold F54
  simp
  have hw0 := bx' w [.cells #[.slice a l.length c] 53, .cells #[.int .u64 s] 35]
  have g0 : hp (ext w [.cells #[.slice a l.length c] 53, .cells #[.int .u64 s] 35]) w.heap.size = some (.cells #[.slice a l.length c] 53) := by simp
  have g1 : hp (ext w [.cells #[.slice a l.length c] 53, .cells #[.int .u64 s] 35]) (w.heap.size + 1) = some (.cells #[.int .u64 s] 35) := by simp
  have hr := h.bel hw0
  generalize ext w [.cells #[.slice a l.length c] 53, .cells #[.int .u64 s] 35] = u at hw0 g0 g1 hr ⊢
  refine c75 ?_
  unfold F75
  have hbl := bh_le l s
  refine ⟨fun st x => ∃ i j : Nat, st = [.int .i64 (i : Nat), .int .i64 (j : Nat)] ∧ i ≤ bh l s ∧ bh l s ≤ j ∧ j ≤ l.length ∧ Bel u x, fun st _ => (n0 st 1 - n0 st 0).toNat, ⟨0, l.length, rfl, by omega, hbl, Nat.le_refl _, br u⟩, ?_⟩
  rintro st x ⟨i, j, rfl, h1, h2, h3, hx⟩
  simp
  refine ifD (fun h4 => ?_) (fun h4 => ?_)
  · have e1 : IntKind.i64.wrap ((i : Int) + (j : Int)) % 18446744073709551616 = ((i + j : Nat) : Int) := by
      rw [wrap_i64 (by omega) (by omega)]
      omega
    rw [e1, pure_shr1]
    simp only [conv_161_3]
    have hmid : (i + j) / 2 < l.length := by omega
    rw [i64_nat (by omega)]
    obtain ⟨b, o, c2, ⟨off, ho, hsl⟩, hat⟩ := hr.at (List.getElem?_eq_getElem hmid)
    injection hsl with hsl _ _
    subst hsl
    have hsp := bh_spec (s := s) hm _ _ (List.getElem?_eq_getElem hmid)
    generalize l[(i + j) / 2] = y at hat hsp
    have e2 : IntKind.i64.wrap ((((i + j) / 2 : Nat) : Int) + 1) = (((i + j) / 2 + 1 : Nat) : Int) := wrap_i64 (by omega) (by omega)
    have hxd := bd hx
    refine c76 ?_
    unfold F76
    refine drawn (St0 := Bel u) hxd fun St hS => ?_
    have hSu := (hS x.drew).2 hxd
    rw [readP_iff (fun a ha => bg ((hS a).1 ha) g0) hSu]
    simp
    rw [show ((i : Int) + (j : Int)) / 2 = (((i + j) / 2 : Nat) : Int) by omega]
    rw [idxR (T := 53) (k := 2) (by kernel_rfl) hmid, ← ho]
    simp
    have hload : ∀ a, St a → loadW Pg 35 (.pointer (some ⟨b, o, none⟩)) a = some (.int .u64 y.seq) := fun a ha => by
      have := (hat.bel ((hS a).1 ha)).cell0 (by simp [encV])
      simp only [loadW_ptr, shape_35, ldSh_one, this]
      rfl
    refine ⟨_, hload, ?_⟩
    rw [readP_iff (fun a ha => bg ((hS a).1 ha) g1) hSu]
    simp
    have e3 : ((i : Int) + (j : Int)) / 2 = (((i + j) / 2 : Nat) : Int) := by omega
    rw [e3, e2]
    refine ifB (fun h5 => ?_) (fun h5 => ?_)
    · have h5 : ¬ s < y.seq := by simpa using h5
      have h6 : (i + j) / 2 < bh l s := hsp.1 (by omega)
      refine ⟨⟨(i + j) / 2 + 1, j, ⟨rfl, rfl⟩, h6, h2, h3, hxd⟩, ?_⟩
      simp [n0]; omega
    · have h5 : s < y.seq := by simpa using h5
      have h6 : bh l s ≤ (i + j) / 2 := by
        rcases Nat.lt_or_ge ((i + j) / 2) (bh l s) with h | h
        · have := hsp.2 h; omega
        · exact h
      refine ⟨⟨i, (i + j) / 2, ⟨rfl, rfl⟩, h1, h6, by omega, hxd⟩, ?_⟩
      simp [n0]; omega
  · have : i = bh l s := by omega
    rw [this]
    exact hR _ (bt hw0 hx)
@[simp] theorem pure_max (P : Program) (T : Array TypeId) (ty : TypeId) (k : IntKind) (a b : Int) (K : Value → Prop) :
    pureP P (Builtin.max_ T ty #[.int k a, .int k b]) K ↔ K (.int k (if a < b then b else a)) := pureP_of fun w => by simp [Builtin.max_, Builtin.max2]
/-- seen.Newest, of versions that may be. -/
theorem s18 {w : World} {v : Value} {l : List Vr} (h : Rd w 2 encV v l) (hl : l.length ≤ 1000000) (hm : mayFrom 0 l = true) {s : Int} {R : Value → World → Prop}
    (hR : ∀ w', Bel w w' → R (.tuple #[.int .i64 ((bh l s - 1 : Nat) : Int), .bool (decide (0 < bh l s))]) w') : F18 v (.int .u64 s) w R := by
  unfold F18
  refine c53 (s53 h hl fun w1 b1 => ?_)
  rw [hm]
  simp
  refine c54 (s54 (h.bel b1) hl hm fun w2 b2 => ?_)
  have hb := bh_le l s
  have e1 : IntKind.i64.wrap ((bh l s : Int) - 1) = (bh l s : Int) - 1 := wrap_i64 (by omega) (by omega)
  have e2 : (if (bh l s : Int) - 1 < 0 then (0 : Int) else (bh l s : Int) - 1) = ((bh l s - 1 : Nat) : Int) := by split <;> omega
  simp [e1, e2]
  simpa using hR _ (bt b1 b2)
end Go.Proofs.Ytbcmoikpmmjlkaa
