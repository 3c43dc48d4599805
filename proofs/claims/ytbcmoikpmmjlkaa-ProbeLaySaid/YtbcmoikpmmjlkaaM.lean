/- More laws for contracts: what a call leaves as it was; small functions' contracts. -/
import Derived.Test.YtbcmoikpmmjlkaaT
namespace Go.Proofs.Ytbcmoikpmmjlkaa
open Go Eng
set_option maxRecDepth 100000

/-- All that was there is as it was. -/
abbrev Bel (w w' : World) : Prop := RowKit.Below w.heap.size w w'
theorem br (w : World) : Bel w w := RowKit.Below.refl _ _
theorem bt {a b c : World} (h : Bel a b) (k : Bel b c) : Bel a c := h.trans (k.mono h.size)
theorem bx {a w : World} (h : Bel a w) (l : List Obj) : Bel a (ext w l) := Below_ext h h.size
theorem bx' (w : World) (l : List Obj) : Bel w (ext w l) := bx (br w) l
theorem bu {a w : World} (h : Bel a w) {b : Nat} (hb : a.heap.size ≤ b) (o : Obj) : Bel a (upd w b o) := Below_upd h hb
theorem bd {a w : World} (h : Bel a w) : Bel a w.drew := h.drew
theorem bg {w w' : World} (h : Bel w w') {b : Nat} {o : Obj} (hb : hp w b = some o) : hp w' b = some o := (h.block b (hp_lt hb)).trans hb

theorem join_of {A : (List Value → World → Prop) → Prop} {R : List Value → World → Prop} (h : ∀ J, (∀ s w, R s w → J s w) → A J) : joinP A R := ⟨h R fun _ _ h => h⟩
@[simp] theorem nthV_zero (a : Value) (l : List Value) : nthV (a :: l) 0 = a := rfl
@[simp] theorem nthV_one (a b : Value) (l : List Value) : nthV (a :: b :: l) 1 = b := rfl
@[simp] theorem nthV_two (a b c : Value) (l : List Value) : nthV (a :: b :: c :: l) 2 = c := rfl
@[simp] theorem nthV_three (a b c d : Value) (l : List Value) : nthV (a :: b :: c :: d :: l) 3 = d := rfl
@[simp] theorem nthV_four (a b c d e : Value) (l : List Value) : nthV (a :: b :: c :: d :: e :: l) 4 = e := rfl
@[simp] theorem nthV_five (a b c d e f : Value) (l : List Value) : nthV (a :: b :: c :: d :: e :: f :: l) 5 = f := rfl
theorem castB {R : Value → World → Prop} {b b' : Bool} {w : World} (h : R (.bool b) w) (e : b = true ↔ b' = true) : R (.bool b') w := by
  rw [← Bool.eq_iff_iff.2 e]; exact h

/-- key.May. -/
theorem s50 {w : World} {a : Option Addr} {n c : Nat} {R : Value → World → Prop} (hR : R (.bool (decide (1 ≤ n ∧ n ≤ 64))) w) : F50 (.slice a n c) w R := by
  simp [F50]
  refine ifD (fun h => castB hR ?_) (fun h => castB hR ?_) <;> simp <;> omega
/-- key.MayValue. -/
theorem s73 {w : World} {a : Option Addr} {n c : Nat} {R : Value → World → Prop} (hR : R (.bool (decide (n ≤ 1024))) w) : F73 (.slice a n c) w R := by
  simp [F73]
  exact castB hR (by simp; omega)
/-- loc.None. -/
theorem s48 {w : World} {s o : Int} {R : Value → World → Prop} (hR : ∀ w', Bel w w' → R (.bool (decide (s = 0 ∧ o = 0))) w') : F48 (.agg #[.int .u32 s, .int .u32 o]) w R := by
  have := hR (ext w [.cells #[.int .u32 s, .int .u32 o] 34]) (bx' _ _)
  simpa [F48] using this
/-- loc.stands. -/
theorem s74 {w : World} {s o : Int} {R : Value → World → Prop} (hR : ∀ w', Bel w w' → R (.bool (decide (1 ≤ s ∧ s ≤ 16777215 ∧ 16 ≤ o ∧ o ≤ 16777216))) w') : F74 (.agg #[.int .u32 s, .int .u32 o]) w R := by
  have hR := hR (ext w [.cells #[.int .u32 s, .int .u32 o] 34]) (bx' _ _)
  simp [F74]
  repeat' (first | refine ifD (fun h => ?_) (fun h => ?_) | refine castB hR ?_)
  all_goals (simp; omega)
/-- loc.May. -/
def locMay (s o : Int) : Bool := decide (s = 0 ∧ o = 0 ∨ 1 ≤ s ∧ s ≤ 16777215 ∧ 16 ≤ o ∧ o ≤ 16777216)
theorem s47 {w : World} {s o : Int} {R : Value → World → Prop} (hR : ∀ w', Bel w w' → R (.bool (locMay s o)) w') : F47 (.agg #[.int .u32 s, .int .u32 o]) w R := by
  have h0 := bx' w [.cells #[.int .u32 s, .int .u32 o] 34]
  unfold locMay at hR
  simp [F47]
  refine c48 (s48 fun w1 h1 => ?_)
  have hb : hp w1 w.heap.size = some (.cells #[.int .u32 s, .int .u32 o] 34) := bg h1 (by simp)
  refine ifD (fun h => ?_) (fun h => ?_)
  · refine castB (hR w1 (bt h0 h1)) ?_
    simp; omega
  · simp [hb]
    refine c74 (s74 fun w2 h2 => ?_)
    refine castB (hR w2 (bt h0 (bt h1 h2))) ?_
    simp; omega

/-- record.May, of a record with no value. -/
theorem s46 {w : World} {seq kind ps po : Int} {ka va : Option Addr} {kn kc vn vc : Nat} {R : Value → World → Prop}
    (hR : ∀ w', Bel w w' → R (.bool (decide ((kind = 1 ∨ kind = 2 ∧ vn = 0) ∧ 1 ≤ seq ∧ seq ≤ 1099511627776 ∧ 1 ≤ kn ∧ kn ≤ 64 ∧ vn ≤ 1024) && locMay ps po)) w') :
    F46 (.agg #[.int .u64 seq, .int .i64 kind, .slice ka kn kc, .slice va vn vc, .int .u32 ps, .int .u32 po]) w R := by
  simp [F46]
  refine join_of fun J hJ => ?_
  have hd := bx' w [.cells #[.int .u64 seq, .int .i64 kind, .slice ka kn kc, .slice va vn vc, .int .u32 ps, .int .u32 po] 38]
  have key : ∀ b : Bool, (b = true ↔ (kind = 1 ∨ kind = 2 ∧ vn = 0)) → J [.bool b] (ext w [.cells #[.int .u64 seq, .int .i64 kind, .slice ka kn kc, .slice va vn vc, .int .u32 ps, .int .u32 po] 38]) := by
    intro b hb
    refine hJ _ _ ?_
    have no : (decide ((kind = 1 ∨ kind = 2 ∧ vn = 0) ∧ 1 ≤ seq ∧ seq ≤ 1099511627776 ∧ 1 ≤ kn ∧ kn ≤ 64 ∧ vn ≤ 1024)) = false → ∀ w', Bel w w' → R (.bool false) w' := fun h w' hw => by have := hR w' hw; rwa [h] at this
    simp
    refine ifB (fun h => ?_) (fun h => ?_)
    · refine ifD (fun h1 => ?_) (fun h1 => ?_)
      · refine ifD (fun h2 => ?_) (fun h2 => ?_)
        · refine c50 (s50 ?_)
          refine ifD (fun h3 => ?_) (fun h3 => ?_)
          · simp
            refine c73 (s73 ?_)
            refine ifD (fun h4 => ?_) (fun h4 => ?_)
            · simp
              refine c47 (s47 fun w1 h5 => ?_)
              have := hR w1 (bt hd h5)
              rw [show (decide ((kind = 1 ∨ kind = 2 ∧ vn = 0) ∧ 1 ≤ seq ∧ seq ≤ 1099511627776 ∧ 1 ≤ kn ∧ kn ≤ 64 ∧ vn ≤ 1024)) = true from decide_eq_true ⟨hb.1 h, h1, h2, h3.1, h3.2, h4⟩, Bool.true_and] at this
              exact this
            · exact no (decide_eq_false fun hh => h4 hh.2.2.2.2.2) _ hd
          · exact no (decide_eq_false fun hh => h3 ⟨hh.2.2.2.1, hh.2.2.2.2.1⟩) _ hd
        · exact no (decide_eq_false fun hh => h2 hh.2.2.1) _ hd
      · exact no (decide_eq_false fun hh => h1 hh.2.1) _ hd
    · exact no (decide_eq_false fun hh => by have := hb.2 hh.1; rw [h] at this; cases this) _ hd
  refine ifD (fun h => key _ (by simp [h])) (fun h => ?_)
  refine ifD (fun h2 => key _ (by simp [h2])) (fun h2 => key _ (by simp [h, h2]))
end Go.Proofs.Ytbcmoikpmmjlkaa
