/- Law 25, PlanTells: clones, comparisons, few. -/
import Derived.Test.YtbcmoikpmmjlkaaPH
namespace Go.Proofs.Ytbcmoikpmmjlkaa
open Go Eng
set_option maxRecDepth 100000
theorem slice0 {T E s : Nat} (hT : Pg.underlying T = some (.slice E)) (hs : sizeT Pg E = some s) {a : Option Addr} {n c : Nat} {h : Int} (h0 : 0 ≤ h) (h1 : h ≤ c) {K : Value → Prop} (hK : ∀ a', (∀ b o, a = some ⟨b, o, none⟩ → a' = a) → K (.slice a' h.toNat c)) :
    pureP Pg (Instr.sliceAt T (.slice a n c) none (some (.int .i64 h)) none) K := by
  have e1 : ∀ w, (Instr.sliceAt T (.slice a n c) none (some (.int .i64 h)) none).run Pg w = (Instr.slice T (.slice a n c) none (some (.int .i64 h)) none).run Pg w := fun w => by
    simp [Instr.sliceAt, run_und hT, Result.andThen]
  have e2 : ∀ w, (sizeOf E : Sem Nat).run Pg w = .ok s w := fun w => run_size hs w
  have b1 : ∀ w code, (Instr.sliceBound (.int .i64 h) c code).run Pg w = .ok h.toNat w := fun w code => run_sliceBound _ _ _ _ _ h0 h1
  refine (pureP_of (v := .slice (if c = 0 then a else a.map (·.add 0)) h.toNat c) fun w => ?_).2 (hK _ ?_)
  · rw [e1]
    simp [Instr.slice, run_und hT, Result.andThen, Instr.sliceBounds, b1, e2]
  · rintro b o rfl
    split
    · rfl
    · simp [addr_add]
/-- A list appended. -/
theorem appA {α : Type} {w : World} {B T E k bytes ty : Nat} (hT : RowT T E k bytes) {enc : α → List Value} (he : Enc k enc) {v : Value} {l : List α} (h : Own w B E k enc v l)
    {a : Addr} {c : Nat} {xs : List α} (hx : ∀ j u, (xs.flatMap enc)[j]? = some u → w.cell? (a.add j) = some u) (hl : (l.length + xs.length) * bytes ≤ 140737488355328) (hl2 : l.length + xs.length ≤ maxLen) (hB : B ≤ w.heap.size)
    {K : Value → World → Prop} (hK : ∀ v' w', Own w' B E k enc v' (l ++ xs) → w.grownBy w' v.ownBlock → (v'.ownBlock = v.ownBlock ∨ v'.ownBlock = some w.heap.size) → K v' w') :
    S Pg (Builtin.append_ #[T, T] ty #[v, .slice (some a) xs.length c]) w K := by
  obtain ⟨hu, hi⟩ := hT
  obtain ⟨i, hi, he2⟩ := Option.map_eq_some_iff.1 hi
  injection he2 with e1 e2
  injection e2 with e2 e3
  obtain ⟨z, hz, hzs⟩ := Option.map_eq_some_iff.1 e3
  have hlen : ∀ l : List α, (l.flatMap enc).length = l.length * k := by
    intro l
    induction l with
    | nil => simp
    | cons x l ih => rw [List.flatMap_cons, List.length_append, ih, he.len, List.length_cons, Nat.add_mul]; omega
  obtain ⟨v', w', h1, h2, h3, h4, h5⟩ := run_append_own_at (P := Pg) w B T ty E i z k bytes hu hi hz e1 e2 hzs he.pos v l.length (l.flatMap enc) h a xs.length c (xs.flatMap enc) (hlen xs) hx (fun u hu => by
    obtain ⟨x, _, hx⟩ := List.mem_flatMap.1 hu
    exact he.one x u hx) hl2 hl hB
  refine (S_of h1).2 (hK v' w' ?_ h3 h5)
  unfold Own
  rw [List.length_append, List.flatMap_append]
  exact h2
theorem cell_of_at {w : World} {b o j : Nat} {xs : List Value} {u : Value} (h : At w b o xs) (hj : xs[j]? = some u) : w.cell? ((⟨b, o, none⟩ : Addr).add j) = some u := by
  obtain ⟨cs, E, fr, h1, h2⟩ := h
  have hh : w.heap[b]? = some (.cells cs E fr) := h1
  rw [addr_add]
  simp [World.cell?, hh, h2 j u hj]
def encC (c : Nat) : List Value := [.int .u8 (c : Nat)]
theorem encC_ok : Enc 1 encC := ⟨fun _ => rfl, fun x u hu => by simp [encC] at hu; subst hu; rfl, by decide⟩
theorem flat_encC (k : List Nat) : k.flatMap encC = byC k := by
  induction k with
  | nil => rfl
  | cons x k ih => rw [List.flatMap_cons, ih]; rfl
theorem row36 : RowT 36 5 1 1 := ⟨Try.underlying36, by kernel_rfl⟩
/-- A key that can be read, perhaps empty. -/
structure Kb (w : World) (v : Value) (k : List Nat) : Prop where
  form : ∃ a c, v = .slice a k.length c
  bs : k ≠ [] → Bs w v k
theorem Kb.bel {w w' : World} {v : Value} {k : List Nat} (h : Kb w v k) (hb : Bel w w') : Kb w' v k := ⟨h.form, fun hn => (h.bs hn).bel hb⟩
/-- A key in a block of bytes. -/
structure Kc (w : World) (B : Nat) (v : Value) (k : List Nat) : Prop where
  form : ∃ a c, v = .slice a k.length c
  bs : k ≠ [] → ∃ (b c : Nat) (cs : Array Value) (fr : Nat × Nat), v = .slice (some ⟨b, 0, none⟩) k.length c ∧ k.length ≤ c ∧ hp w b = some (.cells cs 5 fr) ∧ B ≤ b ∧ ∀ (j : Nat) (y : Value), (byC k)[j]? = some y → cs[j]? = some y
theorem Kc.kb {w : World} {B : Nat} {v : Value} {k : List Nat} (h : Kc w B v k) : Kb w v k := ⟨h.form, fun hn => by
  obtain ⟨b, c, cs, fr, h1, h2, h3, _, h5⟩ := h.bs hn
  exact ⟨b, 0, c, h1, h2, cs, 5, fr, h3, fun j y hy => by rw [Nat.zero_add]; exact h5 j y hy⟩⟩
theorem Kc.keep {w w' : World} {B : Nat} {v : Value} {k : List Nat} (h : Kc w B v k) (hk : ∀ b o, hp w b = some o → (∀ cs E fr, o = .cells cs E fr → E = 5) → B ≤ b → hp w' b = some o) : Kc w' B v k := ⟨h.form, fun hn => by
  obtain ⟨b, c, cs, fr, h1, h2, h3, h4, h5⟩ := h.bs hn
  exact ⟨b, c, cs, fr, h1, h2, hk b _ h3 (fun cs' E fr' e => by injection e with _ e; exact e.symm) h4, h4, h5⟩⟩
theorem Kc.bel {w w' : World} {B : Nat} {v : Value} {k : List Nat} (h : Kc w B v k) (hb : Bel w w') : Kc w' B v k := h.keep fun _ _ h _ _ => bg hb h
/-- bytes.Clone. -/
theorem s37 {w : World} {v : Value} {k : List Nat} (h : Kb w v k) (hl : k.length ≤ 1000000) {R : Value → World → Prop} (hR : ∀ w' v', Bel w w' → Kc w' w.heap.size v' k → R v' w') : F37 v w R := by
  obtain ⟨a, c, rfl⟩ := h.form
  unfold F37
  simp
  refine ifB (fun h1 => ?_) (fun h1 => ?_)
  · have hk : k = [] := by
      refine Classical.byContradiction fun hn => ?_
      obtain ⟨b, o, c', e, _⟩ := h.bs hn
      injection e with e
      rw [e] at h1; simp at h1
    subst hk
    exact hR w _ (br w) ⟨⟨none, 0, rfl⟩, fun hn => absurd rfl hn⟩
  · cases a with
    | none => simp at h1
    | some ad =>
    have hx := bx' w [.cells #[] 5]
    have g0 := hp_new w (.cells #[] 5)
    have h2 := h.bel hx
    generalize ext w [.cells #[] 5] = w1 at hx g0 h2 ⊢
    have ho : Own w1 w.heap.size 5 1 encC (.slice (some ⟨w.heap.size, 0, none⟩) 0 0) [] := ⟨rfl, .inr ⟨w.heap.size, 0, #[], rfl, Nat.le_refl _, g0, Nat.le_refl _, by simp, rfl, rfl⟩⟩
    refine appA row36 encC_ok ho (xs := k) (fun j u hj => ?_) (by simp; omega) (by simp only [maxLen]; simp; omega) hx.size fun v' w2 ho2 hg hv => ?_
    · rw [flat_encC] at hj
      have hn : k ≠ [] := by rintro rfl; simp [byC] at hj
      obtain ⟨b, o, c', e, _, hat⟩ := h2.bs hn
      injection e with e
      injection e with e
      subst e
      exact cell_of_at hat hj
    · have hb2 : Bel w w2 := grown_bel hg hx fun g hg => Nat.le_of_eq (Option.some.inj hg)
      refine hR w2 v' hb2 ?_
      rw [List.nil_append] at ho2
      refine ⟨(ho2.rd encC_ok).form, fun hn => ?_⟩
      obtain ⟨_, ⟨_, e⟩ | ⟨g, cap, cur, e1, e2, e3, e4, e5, e6, e7⟩⟩ := ho2
      · exact absurd (List.eq_nil_of_length_eq_zero e) hn
      · refine ⟨g, cap, cur, (0, 0), e1, e4, e3, e2, fun j y hy => ?_⟩
        rw [flat_encC] at e7
        rw [← e7, List.getElem?_take] at hy
        split at hy
        · simpa using hy
        · cases hy
/-- slices.Clone. -/
theorem s38 {w : World} {v : Value} {l : List Int} (h : Rd w 1 encU v l) (hl : l.length ≤ 1000000) {R : Value → World → Prop} (hR : ∀ w' v', Bel w w' → Rd w' 1 encU v' l → R v' w') : F38 v w R := by
  obtain ⟨a, c, rfl⟩ := h.form
  unfold F38
  simp
  refine ifB (fun h1 => ?_) (fun h1 => ?_)
  · have hk : l = [] := by
      cases l with
      | nil => rfl
      | cons x l =>
        obtain ⟨b, o, c2, ⟨off, ho, hsl⟩, hat⟩ := h.at (i := 0) rfl
        injection hsl with e
        rw [e] at h1; simp at h1
    subst hk
    exact hR w _ (br w) ⟨none, 0, rfl, fun i x hx => by simp at hx⟩
  · cases a with
    | none => simp at h1
    | some ad =>
    have hx := bx' w [.cells #[] 35]
    have g0 := hp_new w (.cells #[] 35)
    have h2 := h.bel hx
    generalize ext w [.cells #[] 35] = w1 at hx g0 h2 ⊢
    have ho : Own w1 w.heap.size 35 1 encU (.slice (some ⟨w.heap.size, 0, none⟩) 0 0) [] := ⟨rfl, .inr ⟨w.heap.size, 0, #[], rfl, Nat.le_refl _, g0, Nat.le_refl _, by simp, rfl, rfl⟩⟩
    refine appA row66 encU_ok ho (xs := l) (fun j u hj => ?_) (by simp; omega) (by simp only [maxLen]; simp; omega) hx.size fun v' w2 ho2 hg hv => ?_
    · have hf : l.flatMap encU = l.map fun x => Value.int .u64 x := by
        clear h h2 hj hl hR
        induction l with
        | nil => rfl
        | cons x l ih => rw [List.flatMap_cons, ih]; rfl
      rw [hf, List.getElem?_map] at hj
      obtain ⟨x, hx, rfl⟩ := Option.map_eq_some_iff.1 hj
      obtain ⟨b, o, c2, ⟨off, ho, hsl⟩, hat⟩ := h2.at hx
      injection hsl with e
      injection e with e
      subst e
      have := cell_of_at (j := 0) hat (u := .int .u64 x) rfl
      rw [addr_add] at this ⊢
      rw [ho, Nat.mul_one, Nat.add_zero] at this
      exact this
    · rw [List.nil_append] at ho2
      exact hR w2 v' (grown_bel hg hx fun g hg => Nat.le_of_eq (Option.some.inj hg)) (ho2.rd encU_ok)
/-- slices.Equal. -/
theorem s42 {w : World} {v1 v2 : Value} {l1 l2 : List Int} (h1 : Rd w 1 encU v1 l1) (h2 : Rd w 1 encU v2 l2) (he : l1 = l2) (hl : l1.length ≤ 1000000) {R : Value → World → Prop} (hR : ∀ w', Bel w w' → R (.bool true) w') : F42 v1 v2 w R := by
  subst he
  obtain ⟨a, c, rfl⟩ := h1.form
  obtain ⟨a2, c2, rfl⟩ := h2.form
  unfold F42
  simp
  refine ⟨fun s u => ∃ i : Nat, s = [.int .i64 (i : Nat)] ∧ i ≤ l1.length ∧ Bel w u, fun s _ => (l1.length + 1 - n0 s 0).toNat, ⟨0, rfl, by omega, br w⟩, ?_⟩
  rintro s u ⟨i, rfl, hi, hu⟩
  simp
  refine ifD (fun h3 => ?_) (fun h3 => ?_)
  · obtain ⟨b, o, c3, ⟨off, ho, hsl⟩, hat⟩ := (h1.bel hu).at (List.getElem?_eq_getElem h3)
    injection hsl with hsl _ _
    subst hsl
    obtain ⟨b2, o2, c4, ⟨off2, ho2, hsl⟩, hat2⟩ := (h2.bel hu).at (List.getElem?_eq_getElem h3)
    injection hsl with hsl _ _
    subst hsl
    refine drawn' (St0 := Bel w) (bd hu) fun St hS => ?_
    refine (idxR (T := 66) (k := 1) (by kernel_rfl) h3).2 ?_
    rw [← ho]
    refine ⟨.int .u64 l1[i], fun x hx => ?_, ?_⟩
    · obtain ⟨b', o', c', ⟨off', ho', hsl'⟩, hat'⟩ := (h1.bel ((hS x).1 hx)).at (List.getElem?_eq_getElem h3)
      injection hsl' with e
      injection e with e
      injection e with e1 e2
      subst e1; subst e2
      have := hat'.cell0 (by simp [encU])
      rw [ho, ← ho']
      simp only [loadW_ptr, shape_35, ldSh_one, this]; rfl
    refine (idxR (T := 66) (k := 1) (by kernel_rfl) h3).2 ?_
    rw [← ho2]
    refine ⟨.int .u64 l1[i], fun x hx => ?_, ?_⟩
    · obtain ⟨b', o', c', ⟨off', ho', hsl'⟩, hat'⟩ := (h2.bel ((hS x).1 hx)).at (List.getElem?_eq_getElem h3)
      injection hsl' with e
      injection e with e
      injection e with e1 e2
      subst e1; subst e2
      have := hat'.cell0 (by simp [encU])
      rw [ho2, ← ho']
      simp only [loadW_ptr, shape_35, ldSh_one, this]; rfl
    simp
    have e6 : IntKind.i64.wrap ((i : Int) + 1) = ((i + 1 : Nat) : Int) := i64_succ (by omega)
    rw [e6]
    exact ⟨⟨i + 1, rfl, h3, bd hu⟩, by simp [n0]; omega⟩
  · exact hR u hu
theorem conv_kb {w : World} {v : Value} {k : List Nat} (hb : Kb w v k) (hk : ∀ x ∈ k, x < 256) {K : Value → Prop} (h : K (.string (strOf k))) : getO (runR Pg (convert 36 9 v) w) K := by
  by_cases hn : k = []
  · subst hn
    obtain ⟨a, c, rfl⟩ := hb.form
    refine getR ?_ h
    cases a with
    | none =>
      simp [convert, run_und Try.underlying36, run_und Try.underlying9, run_und Try.underlying5, Result.andThen, strOf, Conv.bytesToString]
      rfl
    | some ad =>
      have := run_convert_bytes_back (P := Pg) w 36 9 5 ad c [] Try.underlying36 Try.underlying5 Try.underlying9 (fun j hj => by simp at hj)
      simpa [strOf] using this
  · exact conv_back (hb.bs hn) hk h
/-- bytes.Equal. -/
theorem s43 {w : World} {v1 v2 : Value} {k : List Nat} (h1 : Kb w v1 k) (h2 : Kb w v2 k) (hk : ∀ x ∈ k, x < 256) {R : Value → World → Prop} (hR : R (.bool true) w) : F43 v1 v2 w R := by
  unfold F43
  refine conv_kb h1 hk ?_
  refine conv_kb h2 hk ?_
  refine (pure_eqStr _ _ _).2 ?_
  simpa using hR
end Go.Proofs.Ytbcmoikpmmjlkaa
