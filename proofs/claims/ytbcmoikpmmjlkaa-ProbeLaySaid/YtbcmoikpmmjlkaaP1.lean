/- Plans: items, and what May answers. -/
import Derived.Test.YtbcmoikpmmjlkaaS2
import Derived.Test.YtbcmoikpmmjlkaaR
import Derived.Test.YtbcmoikpmmjlkaaI
namespace Go.Proofs.Ytbcmoikpmmjlkaa
open Go Eng
set_option maxRecDepth 100000
theorem hp_ext_at {w : World} {L : List Obj} {i : Nat} {o : Obj} (h : L[i]? = some o) : hp (ext w L) (w.heap.size + i) = some o := by simp [h]
/-- An item. -/
structure Itm where
  key : List Nat
  seq : Int
  kind : Int
  size : Int
  deriving DecidableEq
/-- An item in memory. -/
structure Im where
  ka : Option Addr
  kc : Nat
  it : Itm
def Im.kv (x : Im) : Value := .slice x.ka x.it.key.length x.kc
def encIm (x : Im) : List Value := [.slice x.ka x.it.key.length x.kc, .int .u64 x.it.seq, .int .i64 x.it.kind, .int .i64 x.it.size]
theorem encIm_ok : Enc 4 encIm := ⟨fun _ => rfl, fun x u hu => by simp [encIm] at hu; rcases hu with rfl | rfl | rfl | rfl <;> rfl, by decide⟩
/-- Items that can be read. -/
structure Items (w : World) (v : Value) (l : List Im) : Prop where
  rd : Rd w 4 encIm v l
  key : ∀ x ∈ l, x.it.key ≠ [] → Bs w x.kv x.it.key
  byte : ∀ x ∈ l, ∀ c ∈ x.it.key, c < 256
theorem Items.bel {w w' : World} {v : Value} {l : List Im} (h : Items w v l) (k : Bel w w') : Items w' v l := ⟨h.rd.bel k, fun x hx hn => (h.key x hx hn).bel k, h.byte⟩
def Itm.bad (last : Int) (x : Itm) : Prop := ¬ (1 ≤ x.key.length ∧ x.key.length ≤ 64) ∨ x.seq ≤ last ∨ 1099511627776 < x.seq ∨ (x.kind ≠ 1 ∧ x.kind ≠ 2) ∨ x.size < 25 ∨ 1113 < x.size
instance (last : Int) (x : Itm) : Decidable (x.bad last) := by unfold Itm.bad; infer_instance
def mayI : Int → List Itm → Bool
  | _, [] => true
  | last, x :: l => if x.bad last then false else mayI x.seq l
/-- plan.May. -/
theorem s24 {w : World} {v : Value} {l : List Im} (h : Rd w 4 encIm v l) (hl : l.length ≤ 1000000) {R : Value → World → Prop} (hR : ∀ w', Bel w w' → R (.bool (mayI 0 (l.map Im.it))) w') : F24 v w R := by
  obtain ⟨a, c, rfl⟩ := h.form
  unfold F24
  simp
  refine ⟨fun s u => ∃ (i : Nat) (last : Int), s = [.int .u64 last, .int .i64 (i : Nat)] ∧ i ≤ l.length ∧ Bel w u ∧ mayI 0 (l.map Im.it) = mayI last ((l.drop i).map Im.it), fun s _ => (l.length + 1 - n0 s 1).toNat, ⟨0, 0, rfl, by omega, br w, rfl⟩, ?_⟩
  rintro s u ⟨i, last, rfl, hi, hu, hm⟩
  simp
  refine ifD (fun h1 => ?_) (fun h1 => ?_)
  · obtain ⟨b, o, c2, ⟨off, ho, hsl⟩, hat⟩ := (h.bel hu).at (List.getElem?_eq_getElem h1)
    injection hsl with hsl _ _
    subst hsl
    have hd : l.drop i = l[i] :: l.drop (i + 1) := List.drop_eq_getElem_cons h1
    rw [hd, List.map_cons, mayI] at hm
    generalize l[i] = x at hat hm
    obtain ⟨ka, kc, ⟨key, seq, kind, size⟩⟩ := x
    rw [idxR (T := 63) (k := 4) (by kernel_rfl) h1, ← ho]
    simp [hat.cells0, encIm]
    have hx := bx hu [.cells #[.slice ka key.length kc, .int .u64 seq, .int .i64 kind, .int .i64 size] 79]
    have g0 := hp_ext_at (w := u) (L := [.cells #[.slice ka key.length kc, .int .u64 seq, .int .i64 kind, .int .i64 size] 79]) (i := 0) rfl
    rw [Nat.add_zero] at g0
    generalize ext u [.cells #[.slice ka key.length kc, .int .u64 seq, .int .i64 kind, .int .i64 size] 79] = u1 at hx g0 ⊢
    have e6 : IntKind.i64.wrap ((i : Int) + 1) = ((i + 1 : Nat) : Int) := wrap_i64 (by omega) (by omega)
    rw [e6]
    have bad : Itm.bad last ⟨key, seq, kind, size⟩ → R (.bool false) u1 := fun hb => by
      rw [if_pos hb] at hm
      rw [← hm]; exact hR _ hx
    have good : ¬ Itm.bad last ⟨key, seq, kind, size⟩ → (∃ i_1 last_1, ([Value.int .u64 seq, .int .i64 ((i + 1 : Nat) : Int)] : List Value) = [.int .u64 last_1, .int .i64 (i_1 : Nat)] ∧ i_1 ≤ l.length ∧ Bel w u1 ∧ mayI 0 (l.map Im.it) = mayI last_1 ((l.drop i_1).map Im.it)) := fun hb => by
      rw [if_neg hb] at hm
      exact ⟨i + 1, seq, rfl, h1, hx, hm⟩
    unfold Itm.bad at bad good
    dsimp only at bad good
    refine c50 (s50 ?_)
    rcases Decidable.em (1 ≤ key.length ∧ key.length ≤ 64) with h2 | h2
    case inr =>
      have := bad (.inl h2)
      rw [decide_eq_false h2]
      simp
      exact this
    rw [decide_eq_true h2]
    simp [g0]
    refine ifD (fun h3 => bad (.inr (.inl h3))) (fun h3 => ?_)
    refine ifD (fun h4 => bad (.inr (.inr (.inl h4)))) (fun h4 => ?_)
    have last2 : ∀ {X : Prop}, (kind = 1 ∨ kind = 2) → ((∃ i_1 last_1, ([Value.int .u64 seq, .int .i64 ((i + 1 : Nat) : Int)] : List Value) = [.int .u64 last_1, .int .i64 (i_1 : Nat)] ∧ i_1 ≤ l.length ∧ Bel w u1 ∧ mayI 0 (l.map Im.it) = mayI last_1 ((l.drop i_1).map Im.it)) → X) → ifV (.bool (decide (size < 25))) (R (.bool false) u1) (ifV (.bool (decide (1113 < size))) (R (.bool false) u1) X) := by
      intro X hk hX
      refine ifD (fun h5 => bad (.inr (.inr (.inr (.inr (.inl h5)))))) (fun h5 => ?_)
      refine ifD (fun h6 => bad (.inr (.inr (.inr (.inr (.inr h6)))))) (fun h6 => ?_)
      refine hX (good ?_)
      rintro (hh | hh | hh | hh | hh | hh)
      · exact hh h2
      · exact h3 hh
      · exact h4 hh
      · rcases hk with hk | hk
        · exact hh.1 hk
        · exact hh.2 hk
      · exact h5 hh
      · exact h6 hh
    refine ifB (fun h7 => ?_) (fun h7 => ?_)
    · have h7 : ¬ kind = 1 := by simpa using h7
      refine ifB (fun h8 => ?_) (fun h8 => ?_)
      · have h8 : ¬ kind = 2 := by simpa using h8
        exact bad (.inr (.inr (.inr (.inl ⟨h7, h8⟩))))
      · have h8 : kind = 2 := by simpa using h8
        refine last2 (.inr h8) ?_
        rintro ⟨j, la, e1, e2⟩
        refine ⟨⟨j, la, by simpa using e1, by simpa using e2⟩, by simp [n0]; omega⟩
    · have h7 : kind = 1 := by simpa using h7
      refine last2 (.inl h7) ?_
      rintro ⟨j, la, e1, e2⟩
      refine ⟨⟨j, la, by simpa using e1, by simpa using e2⟩, by simp [n0]; omega⟩
  · have : l.drop i = [] := List.drop_eq_nil_of_le (by omega)
    rw [this] at hm
    have := hR u hu
    rw [hm] at this
    exact this
end Go.Proofs.Ytbcmoikpmmjlkaa
