/- Law 14: find, Get. -/
import Derived.Test.YtbcmoikpmmjlkaaQD
namespace Go.Proofs.Ytbcmoikpmmjlkaa
open Go Eng
set_option maxRecDepth 100000
theorem st96 {w : World} {q : Nat} {x : Pm} (h : hp w q = some (.cells #[.bool false, .slice none 0 0, .int .u64 0, .int .i64 0] 96)) {K : World → Prop} (hK : K (upd w q (.cells (encPm x).toArray 96))) : getU (storeW Pg 96 (.pointer (some ⟨q, 0, none⟩)) (.agg (encPm x).toArray) w) K := by
  simp [h, encPm]; exact hK
theorem st96b {w : World} {q : Nat} {x y : Pm} (h : hp w q = some (.cells (encPm y).toArray 96)) {K : World → Prop} (hK : K (upd w q (.cells (encPm x).toArray 96))) : getU (storeW Pg 96 (.pointer (some ⟨q, 0, none⟩)) (.agg (encPm x).toArray) w) K := by
  simp [h, encPm]; exact hK
/-- A slot is read. -/
theorem ldSlot {w : World} {B r g seed many : Nat} {L : List Pm} (h : TbM w B r g seed L many) (hn : 0 < L.length) (p : Nat) {K : Value → Prop} (hK : K (.agg (encPm (sl L p)).toArray)) :
    pureP Pg (Instr.indexAt 93 (.slice (some ⟨g, 0, none⟩) L.length L.length) (.int .i64 (p % L.length : Nat))) fun t => getO (loadW Pg 96 t w) K := by
  have hm := Nat.mod_lt p hn
  obtain ⟨b, o, c, ⟨off, ho, e⟩, hat⟩ := h.rd.at (sl_get rfl hn (p := p))
  injection e with e
  injection e with e
  injection e with e1 e2
  subst e1; subst e2
  refine (idxR (T := 93) (k := 4) (by kernel_rfl) hm).2 ?_
  rw [← ho]
  have := hat.cells0 4 (by decide) (by simp [encPm])
  exact ⟨_, by simp only [loadW_ptr, shape_96, ldSh_agg, this]; rfl, hK⟩
/-- probe.find. -/
theorem s63 {w : World} {B r g seed many e : Nat} {L : List Pm} (h : TbM w B r g seed L many) (hs : seed < 18446744073709551616) (hl : L.length = 2 ^ e) (he : e ≤ 20) {v : Value} {k : List Nat} (hb : Bs w v k) (hk : ∀ c ∈ k, c < 256) (h2 : k.length ≤ 1000)
    {u : Nat} (hu : (sl L u).used = false) {R : Value → World → Prop}
    (hR : ∀ w' F, Bel w w' → F < L.length → (∀ f, f < F → stopB k f (sl L (hm seed L.length k + f)) = false) → stopB k F (sl L (hm seed L.length k + F)) = true → R (.tuple #[.int .i64 ((hm seed L.length k + F) % L.length : Nat), .int .i64 (F : Nat)]) w') :
    F63 (.pointer (some ⟨r, 0, none⟩)) v w R := by
  have hp2 : 2 ^ e ≤ 2 ^ 20 := Nat.pow_le_pow_right (by decide) he
  have hp0 : 0 < 2 ^ e := Nat.pow_pos (by decide)
  have hn : 0 < L.length := by omega
  obtain ⟨m, hm1, hm2⟩ := md_reach hn (hm seed L.length k) u
  have hun : (sl L (hm seed L.length k + m)).used = false := by rw [sl_congr hm2]; exact hu
  have hv : Kb w v k := ⟨by obtain ⟨b, off, c, e, _⟩ := hb; exact ⟨_, _, e⟩, fun _ => hb⟩
  have hkx : ∀ p, Kb w (sl L p).kv (sl L p).key ∧ ∀ c ∈ (sl L p).key, c < 256 := fun p => h.keys.kb (sl_mem hn p)
  unfold F63
  refine c80 (s80 h hs hl he hb hk h2 fun w1 b1 => ?_)
  have hc1 := bg b1 h.cell
  have hh : hm seed L.length k = (hm seed L.length k + 0) % L.length := by rw [Nat.add_zero]; exact (Nat.mod_eq_of_lt (Nat.mod_lt _ hn)).symm
  simp [hc1, -newP_some, -storeW_ptr, -zero_96]
  have hst : (hm seed L.length k : Int) = (((hm seed L.length k + 0) % L.length : Nat) : Int) := by rw [← hh]
  rw [hst]
  refine ldSlot (h.bel b1) hn _ ?_
  refine newL zero_96 fun q w2 b2 hq _ c2 => ?_
  refine st96 c2 ?_
  have c2 : hp (upd w2 q (.cells (encPm (sl L (hm seed L.length k + 0))).toArray 96)) q = some (.cells (encPm (sl L (hm seed L.length k + 0))).toArray 96) := by simp [c2]
  have b2 : Bel w1 (upd w2 q (.cells (encPm (sl L (hm seed L.length k + 0))).toArray 96)) := bu b2 hq _
  generalize upd w2 q (.cells (encPm (sl L (hm seed L.length k + 0))).toArray 96) = w3 at c2 b2 ⊢
  have b3 := bt b1 b2
  clear b1 b2 hq hc1 hst hh
  generalize hm seed L.length k = c at *
  refine ⟨fun s z => ∃ (F q p : Nat), s = [.int .i64 (p : Nat), .int .i64 (F : Nat), .pointer (some ⟨q, 0, none⟩)] ∧ p = (c + F) % L.length ∧ Bel w z ∧ F ≤ m ∧ (∀ f, f < F → stopB k f (sl L (c + f)) = false) ∧ hp z q = some (.cells (encPm (sl L (c + F))).toArray 96),
    fun s _ => (L.length - n0 s 1).toNat, ⟨0, q, _, rfl, rfl, b3, by omega, fun f hf => by omega, c2⟩, ?_⟩
  rintro s z ⟨F, q, p, rfl, hpe, hz, hF, hno, cq⟩
  have hml := Nat.mod_lt (c + F) hn
  have hload : cellsOf (hp z q) 0 4 = some (encPm (sl L (c + F))).toArray := by rw [cq]; simp [encPm, cellsOf]
  simp [hload, -newP_some, -storeW_ptr, -zero_96]
  refine c81 (s81 (hv.bel hz) hk ⟨(hkx _).1.bel hz, (hkx _).2⟩ fun z1 b1 => ?_)
  have hz1 := bt hz b1
  have cq1 := bg b1 cq
  simp [-newP_some, -storeW_ptr, -zero_96]
  refine ifB (fun ha => ?_) (fun ha => ?_)
  · simp [cq1, encPm, -newP_some, -storeW_ptr, -zero_96]
    refine c43 (s43' (hv.bel hz1) ((hkx (c + F)).1.bel hz1) hk (hkx _).2 ?_)
    simp [-newP_some, -storeW_ptr, -zero_96]
    refine ifB (fun he => ?_) (fun he => ?_)
    · have ha : aheadB k F (sl L (c + F)) = false := by simpa using ha
      have he' : k ≠ (sl L (c + F)).key := by simpa using he
      have hnos : stopB k F (sl L (c + F)) = false := by
        unfold stopB; rw [ha, decide_eq_false he']; rfl
      have hFm : F < m := by
        rcases Nat.lt_or_ge F m with hl | hl
        · exact hl
        · obtain rfl : F = m := by omega
          unfold aheadB at ha
          rw [hun] at ha
          cases ha
      have e6 : IntKind.i64.wrap ((F : Int) + 1) = ((F + 1 : Nat) : Int) := i64_succ (by omega)
      have hT1 := h.bel hz1
      refine c67 (s67 hT1 hl (by assumption) (p := p) (by omega) ?_)
      have hp' : (p + 1) % L.length = (c + (F + 1)) % L.length := by rw [hpe, Nat.add_mod, Nat.mod_mod, ← Nat.add_mod]; rfl
      rw [hp']
      have hload1 : cellsOf (hp z1 q) 0 4 = some (encPm (sl L (c + F))).toArray := by rw [cq1]; simp [encPm, cellsOf]
      rw [hload1]
      refine ⟨_, rfl, ?_⟩
      refine newL zero_96 fun q2 y b2 hq2 _ c2 => ?_
      refine st96 c2 ?_
      have c2 : hp (upd y q2 (.cells (encPm (sl L (c + F))).toArray 96)) q2 = some (.cells (encPm (sl L (c + F))).toArray 96) := by simp [c2]
      have b2 : Bel z1 (upd y q2 (.cells (encPm (sl L (c + F))).toArray 96)) := bu b2 hq2 _
      generalize upd y q2 (.cells (encPm (sl L (c + F))).toArray 96) = y1 at c2 b2 ⊢
      have hy1 := bt hz1 b2
      have hr1 := bg b2 hT1.cell
      simp [hr1, -newP_some, -storeW_ptr, -zero_96, -Int.natCast_emod]
      have hrl := hp_lt hr1
      refine ldSlot (h.bel hy1) hn _ ?_
      refine st96b c2 ?_
      have c3 : hp (upd y1 q2 (.cells (encPm (sl L (c + (F + 1)))).toArray 96)) q2 = some (.cells (encPm (sl L (c + (F + 1)))).toArray 96) := by simp [c2]
      rw [e6]
      refine ⟨⟨F + 1, q2, (c + (F + 1)) % L.length, ⟨rfl, rfl, rfl⟩, rfl, bu hy1 (by have := hz1.size; omega) _, hFm, fun f hf => ?_, c3⟩, by simp [n0]; omega⟩
      rcases Nat.lt_or_ge f F with hl | hl
      · exact hno f hl
      · obtain rfl : f = F := by omega
        exact hnos
    · have he' : k = (sl L (c + F)).key := by simpa using he
      rw [hpe]
      exact hR z1 F hz1 (by omega) hno (by unfold stopB; rw [decide_eq_true he', Bool.or_true])
  · have ha : aheadB k F (sl L (c + F)) = true := by simpa using ha
    rw [hpe]
    exact hR z1 F hz1 (by omega) hno (by unfold stopB; rw [ha]; rfl)
end Go.Proofs.Ytbcmoikpmmjlkaa
