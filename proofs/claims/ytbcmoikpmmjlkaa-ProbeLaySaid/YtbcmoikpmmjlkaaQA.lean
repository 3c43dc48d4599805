/- Law 14: keys compared. -/
import Derived.Test.YtbcmoikpmmjlkaaPI
import Derived.Laws.Externs
import Derived.Lib.Bytealg
import Derived.Lib.BytesEntry
namespace Go.Proofs.Ytbcmoikpmmjlkaa
open Go Eng
set_option maxRecDepth 100000
/-- One key comes ahead of another. -/
def ltK : List Nat → List Nat → Bool
  | _, [] => false
  | [], _ :: _ => true
  | a :: l, b :: m => decide (a < b) || (decide (a = b) && ltK l m)
theorem ltK_irrefl : ∀ a, ltK a a = false
  | [] => rfl
  | x :: l => by simp [ltK, ltK_irrefl l]
theorem ltK_trans : ∀ {a b c : List Nat}, ltK a b = true → ltK b c = true → ltK a c = true
  | _, _, [], _, h => by cases ‹List Nat› <;> simp [ltK] at h
  | _, [], _ :: _, h, _ => by simp [ltK] at h
  | [], _ :: _, _ :: _, _, _ => rfl
  | x :: a, y :: b, z :: c, h1, h2 => by
    simp only [ltK, Bool.or_eq_true, Bool.and_eq_true, decide_eq_true_eq] at h1 h2 ⊢
    rcases h1 with h1 | ⟨rfl, h1⟩
    · rcases h2 with h2 | ⟨rfl, h2⟩
      · exact .inl (Nat.lt_trans h1 h2)
      · exact .inl h1
    · rcases h2 with h2 | ⟨rfl, h2⟩
      · exact .inl h2
      · exact .inr ⟨rfl, ltK_trans h1 h2⟩
theorem ltK_total : ∀ {a b : List Nat}, a ≠ b → ltK a b = false → ltK b a = true
  | [], [], h, _ => absurd rfl h
  | [], _ :: _, _, h => by simp [ltK] at h
  | _ :: _, [], _, _ => rfl
  | x :: a, y :: b, h, h1 => by
    simp only [ltK, Bool.or_eq_false_iff, Bool.and_eq_false_iff, decide_eq_false_iff_not, Bool.or_eq_true, Bool.and_eq_true, decide_eq_true_eq] at h1 ⊢
    by_cases hxy : x = y
    · subst hxy
      refine .inr ⟨rfl, ltK_total (fun e => h (by rw [e])) ?_⟩
      rcases h1.2 with h2 | h2
      · exact absurd rfl h2
      · exact h2
    · exact .inl (by omega)
theorem ltK_asymm {a b : List Nat} (h : ltK a b = true) : ltK b a = false := by
  cases h2 : ltK b a with
  | false => rfl
  | true => have := ltK_trans h h2; rw [ltK_irrefl] at this; cases this
def cmpK (a b : List Nat) : Int := Lib.compareBytes (a.map UInt8.ofNat) (b.map UInt8.ofNat)
theorem cmpK_lt : ∀ {a b : List Nat}, (∀ x ∈ a, x < 256) → (∀ x ∈ b, x < 256) → (cmpK a b < 0 ↔ ltK a b = true)
  | [], [], _, _ => by simp [cmpK, Lib.compareBytes, ltK]
  | [], _ :: _, _, _ => by simp [cmpK, Lib.compareBytes, ltK]
  | _ :: _, [], _, _ => by simp [cmpK, Lib.compareBytes, ltK]
  | x :: a, y :: b, ha, hb => by
    have ih := cmpK_lt (a := a) (b := b) (fun z hz => ha z (List.mem_cons_of_mem _ hz)) (fun z hz => hb z (List.mem_cons_of_mem _ hz))
    have hx := ha x List.mem_cons_self
    have hy := hb y List.mem_cons_self
    unfold cmpK at ih ⊢
    simp only [List.map_cons, Lib.compareBytes, ltK]
    have e1 : (UInt8.ofNat x < UInt8.ofNat y) ↔ x < y := by
      rw [UInt8.lt_iff_toNat_lt]; simp; omega
    have e2 : (UInt8.ofNat y < UInt8.ofNat x) ↔ y < x := by
      rw [UInt8.lt_iff_toNat_lt]; simp; omega
    by_cases h1 : x < y
    · simp [e1.2 h1, h1]
    · by_cases h2 : y < x
      · have : ¬ UInt8.ofNat x < UInt8.ofNat y := fun h => h1 (e1.1 h)
        simp [this, e2.2 h2, h1]
        omega
      · have hn1 : ¬ UInt8.ofNat x < UInt8.ofNat y := fun h => h1 (e1.1 h)
        have hn2 : ¬ UInt8.ofNat y < UInt8.ofNat x := fun h => h2 (e2.1 h)
        obtain rfl : x = y := by omega
        simp only [hn1, if_false]
        simp
        exact ih
theorem cmpK_ge {a b : List Nat} (ha : ∀ x ∈ a, x < 256) (hb : ∀ x ∈ b, x < 256) (h : ltK a b = true) : ¬ (0 ≤ cmpK a b) := by
  have := (cmpK_lt ha hb).2 h
  omega
/-- A key's bytes, read by the entry. -/
theorem load_kb {w : World} {v : Value} {k : List Nat} (h : Kb w v k) (hk : ∀ x ∈ k, x < 256) : (Extern.Bytes.bytesOf v).run Pg w = .ok ⟨(k.map UInt8.ofNat).toArray⟩ w := by
  obtain ⟨a, c, rfl⟩ := h.form
  cases a with
  | none =>
    have : k = [] := by
      refine Classical.byContradiction fun hn => ?_
      obtain ⟨b, o, c', e, _⟩ := h.bs hn
      injection e with e; cases e
    subst this
    rfl
  | some ad =>
    have hl : (k.map fun x : Nat => (x : Int)).length = k.length := by simp
    have hr := Lib.run_loadBytesX (P := Pg) w (k.map fun x : Nat => (x : Int)) ad .empty (fun j x hj => by
      rw [List.getElem?_map] at hj
      obtain ⟨y, hy, rfl⟩ := Option.map_eq_some_iff.1 hj
      have hn : k ≠ [] := by rintro rfl; simp at hy
      obtain ⟨b, o, c', e, _, hat⟩ := h.bs hn
      injection e with e
      injection e with e
      subst e
      exact cell_of_at hat (by unfold byC; rw [List.getElem?_map, hy]; rfl))
    rw [hl] at hr
    show (Extern.Bytes.loadBytes ad k.length .empty).run Pg w = _
    rw [hr]
    have e : Lib.bytesOf (k.map fun x : Nat => (x : Int)) = k.map UInt8.ofNat := by
      unfold Lib.bytesOf
      rw [List.map_map]
      refine List.map_congr_left fun x hx => ?_
      simp
    rw [e]
    congr 1
    show (⟨#[] ++ (k.map UInt8.ofNat).toArray⟩ : ByteArray) = _
    simp
/-- internal/bytealg.Compare: the model's entry. -/
theorem c84 {r : Bool} {w : World} {v1 v2 : Value} {k1 k2 : List Nat} (h1 : Kb w v1 k1) (h2 : Kb w v2 k2) (b1 : ∀ x ∈ k1, x < 256) (b2 : ∀ x ∈ k2, x < 256) {K : Value → World → Prop} (hK : K (.int .i64 (cmpK k1 k2)) w) :
    callV Pg r (Fv 84) #[v1, v2] w K := by
  refine ⟨.inr (.inl ⟨.int .i64 (cmpK k1 k2), w, ?_, hK⟩)⟩
  unfold callSem Deferred.ofValue
  simp only [pure_bind, invoke]
  rw [run_callFunc_extern Try.func84 (by kernel_rfl) (by kernel_rfl) (by kernel_rfl) (e := Extern.BytealgCompare.compare) (by kernel_rfl)]
  have : (Extern.BytealgCompare.compare #[v1, v2]).run Pg w = .ok (.int .i64 (cmpK k1 k2)) w := by
    change Sem.run Pg (do pure (goInt (Extern.BytealgCompare.cmp (← Extern.Bytes.bytesOf v1) (← Extern.Bytes.bytesOf v2)))) w = _
    simp only [Sem.run_bind, load_kb h1 b1, load_kb h2 b2, Result.andThen, Sem.run_pure]
    rw [Lib.cmp_eq]
    rfl
  have e : (#[] ++ #[v1, v2]) ++ #[] = #[v1, v2] := rfl
  rw [e, this]
  rfl
/-- bytes.Compare, key.Compare. -/
theorem s70 {w : World} {v1 v2 : Value} {k1 k2 : List Nat} (h1 : Kb w v1 k1) (h2 : Kb w v2 k2) (b1 : ∀ x ∈ k1, x < 256) (b2 : ∀ x ∈ k2, x < 256) {R : Value → World → Prop} (hR : R (.int .i64 (cmpK k1 k2)) w) : F70 v1 v2 w R := by
  unfold F70
  exact c84 h1 h2 b1 b2 hR
theorem s33 {w : World} {v1 v2 : Value} {k1 k2 : List Nat} (h1 : Kb w v1 k1) (h2 : Kb w v2 k2) (b1 : ∀ x ∈ k1, x < 256) (b2 : ∀ x ∈ k2, x < 256) {R : Value → World → Prop} (hR : R (.int .i64 (cmpK k1 k2)) w) : F33 v1 v2 w R := by
  unfold F33
  exact c70 (s70 h1 h2 b1 b2 hR)
end Go.Proofs.Ytbcmoikpmmjlkaa
