/- Law 14: Get; a key is laid. -/
import Derived.Test.YtbcmoikpmmjlkaaQF
namespace Go.Proofs.Ytbcmoikpmmjlkaa
open Go Eng
set_option maxRecDepth 100000
theorem s62 {w : World} {B r g seed many : Nat} {L : List Pm} (h : TbM w B r g seed L many) {R : Value → World → Prop} (hR : R (.bool false) w) : F62 (.pointer (some ⟨r, 0, none⟩)) w R := by
  unfold F62
  refine (pure_eqP Try.underlying89 _ _).2 ?_
  simp [h.cell]
  exact hR
/-- What find found. -/
theorem found_or {seed : Nat} {L : List Pm} (t : Tb (hm seed L.length) L.length L) (hn : 0 < L.length) {u : Nat} (hu : (sl L u).used = false) {k : List Nat} {F : Nat}
    (h1 : ∀ f, f < F → stopB k f (sl L (hm seed L.length k + f)) = false) (h2 : stopB k F (sl L (hm seed L.length k + F)) = true) (hno : ¬ ((sl L (hm seed L.length k + F)).used = true ∧ (sl L (hm seed L.length k + F)).key = k)) :
    ∀ p, (sl L p).used = true → (sl L p).key ≠ k := by
  intro p hp hk
  subst hk
  have hF := t.found hn hu hp h1 h2
  have hx : sl L (hm seed L.length (sl L p).key + F) = sl L p := sl_congr (by rw [hF]; exact t.home p hp)
  rw [hx] at hno
  exact hno ⟨hp, rfl⟩
/-- probe.Get. -/
theorem s34 {w : World} {B r g seed many e : Nat} {L : List Pm} (h : TbM w B r g seed L many) (t : Tb (hm seed L.length) L.length L) (hs : seed < 18446744073709551616) (hl : L.length = 2 ^ e) (he : e ≤ 20) {v : Value} {k : List Nat} (hb : Bs w v k) (hk : ∀ c ∈ k, c < 256) (h2 : k.length ≤ 1000)
    {u : Nat} (hu : (sl L u).used = false) {R : Value → World → Prop}
    (hR1 : ∀ w' p, Bel w w' → (sl L p).used = true → (sl L p).key = k → R (.tuple #[.int .u64 (sl L p).n, .bool true]) w')
    (hR2 : ∀ w', Bel w w' → (∀ p, (sl L p).used = true → (sl L p).key ≠ k) → R (.tuple #[.int .u64 0, .bool false]) w') :
    F34 (.pointer (some ⟨r, 0, none⟩)) v w R := by
  have hp0 : 0 < 2 ^ e := Nat.pow_pos (by decide)
  have hn : 0 < L.length := by omega
  have hv : Kb w v k := ⟨by obtain ⟨b, off, c, e, _⟩ := hb; exact ⟨_, _, e⟩, fun _ => hb⟩
  have hkx : ∀ p, Kb w (sl L p).kv (sl L p).key ∧ ∀ c ∈ (sl L p).key, c < 256 := fun p => h.keys.kb (sl_mem hn p)
  unfold F34
  refine c62 (s62 h ?_)
  simp [-newP_some, -storeW_ptr, -zero_96]
  refine c63 (s63 h hs hl he hb hk h2 hu fun w1 F b1 hF f1 f2 => ?_)
  have hor := found_or t hn hu f1 f2
  have hc1 := bg b1 h.cell
  simp [hc1, -newP_some, -storeW_ptr, -zero_96, -Int.natCast_emod]
  refine ldSlot (h.bel b1) hn _ ?_
  have hkx := hkx (hm seed L.length k + F)
  have hr1 := fun w' b => hR1 w' (hm seed L.length k + F) b
  generalize sl L (hm seed L.length k + F) = x at *
  refine newL zero_96 fun q w2 b2 hq _ c2 => ?_
  refine st96 c2 ?_
  have c2 : hp (upd w2 q (.cells (encPm x).toArray 96)) q = some (.cells (encPm x).toArray 96) := by simp [c2]
  have b2 : Bel w1 (upd w2 q (.cells (encPm x).toArray 96)) := bu b2 hq _
  generalize upd w2 q (.cells (encPm x).toArray 96) = w3 at c2 b2 ⊢
  have b3 := bt b1 b2
  simp [c2, encPm, -newP_some, -storeW_ptr, -zero_96]
  refine ifB (fun hx => ?_) (fun hx => ?_)
  · refine c43 (s43' (hkx.1.bel b3) (hv.bel b3) hkx.2 hk ?_)
    refine ifD (fun hk' => ?_) (fun hk' => ?_)
    · simp [c2, encPm]
      exact hr1 w3 b3 hx hk'
    · exact hR2 w3 b3 (hor fun hh => hk' hh.2)
  · exact hR2 w3 b3 (hor fun hh => by rw [hh.1] at hx; cases hx)
end Go.Proofs.Ytbcmoikpmmjlkaa
