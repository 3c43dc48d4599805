/- Law 14: knows. -/
import Derived.Test.YtbcmoikpmmjlkaaQO
namespace Go.Proofs.Ytbcmoikpmmjlkaa
open Go Eng
set_option maxRecDepth 100000
theorem tab_new {w : World} {B r g seed : Nat} (h : TbM w B r g seed (List.replicate 8 zPm) 0) : Tab w B r seed (List.replicate 8 zPm) :=
  ⟨⟨g, 3, by rw [ks_empty]; exact h, tb_empty _ _, rfl, by rw [ks_empty]; exact ⟨by decide, by decide, fun h => by omega⟩, by decide⟩, by rw [ks_empty]; exact List.nodup_nil⟩
theorem ft6 {e : Nat} (h : Ft 6 e) : 2 ^ e = 8 := by
  obtain ⟨h1, h2, h3⟩ := h
  by_cases he : e = 3
  · subst he; rfl
  · have h4 := h3 (by omega)
    have : 2 ^ 3 ≤ 2 ^ (e - 1) := Nat.pow_le_pow_right (by decide) (by omega)
    omega
theorem ft7 {e : Nat} (h : Ft 7 e) : 2 ^ e = 16 := by
  obtain ⟨h1, h2, h3⟩ := h
  by_cases he : e = 3
  · subst he; omega
  · by_cases he4 : e = 4
    · subst he4; rfl
    · have h4 := h3 (by omega)
      have : 2 ^ 4 ≤ 2 ^ (e - 1) := Nat.pow_le_pow_right (by decide) (by omega)
      omega
theorem Tab.lt {w : World} {B r seed : Nat} {L : List Pm} (h : Tab w B r seed L) : r < w.heap.size := by
  obtain ⟨g, e, h1, _⟩ := h.out
  exact hp_lt h1.cell
/-- A key of one byte of the call's own. -/
theorem kin_one {w : World} {r c : Nat} (hr : r < w.heap.size) (hc : c < 256) : Kin (ext w [.cells #[.int .u8 (c : Nat)] 5]) r (.slice (some ⟨w.heap.size, 0, none⟩) 1 1) [c] :=
  ⟨⟨_, _, rfl⟩, fun _ => ⟨w.heap.size, 0, 1, rfl, Nat.le_refl _, At.of (hp_new w _), by omega⟩, fun x hx => by simp at hx; omega⟩
/-- Get, of a table in order, of a key that is not there. -/
theorem get_no {w : World} {B r seed : Nat} {L : List Pm} (h : Tab w B r seed L) (hs : seed < 18446744073709551616) {v : Value} {k : List Nat} (hb : Bs w v k) (hk : ∀ c ∈ k, c < 256) (h2 : k.length ≤ 1000) (hno : k ∉ ks L) {R : Value → World → Prop}
    (hR : ∀ w', Bel w w' → R (.tuple #[.int .u64 0, .bool false]) w') : F34 (.pointer (some ⟨r, 0, none⟩)) v w R := by
  obtain ⟨g, e, h1, ht, hl, hft, he⟩ := h.out
  have hn8 : 8 ≤ L.length := by rw [hl]; exact ft_eight hft
  obtain ⟨u, hu⟩ := unused_of hl (by have := ft_two hft; omega)
  refine s34 h1 ht hs hl (by omega) hb hk h2 hu (fun w' p _ hp hpk => absurd ((ks_has (by omega)).2 ⟨p, hp, hpk⟩) hno) fun w' b _ => hR w' b
theorem slots_len {w : World} {B r seed : Nat} {L : List Pm} (h : Tab w B r seed L) {R : Value → World → Prop} (hR : ∀ w' a c, Bel w w' → R (.slice a L.length c) w') : F30 (.pointer (some ⟨r, 0, none⟩)) w R :=
  s30 h fun w' v' M b hrd hM _ _ => by
    obtain ⟨a, c, rfl⟩ := hrd.form
    rw [hM]
    exact hR w' a c b
def oneK (i : Nat) : List (List Nat) := (List.range i).map fun j => [j]
theorem oneK_mem {i c : Nat} : [c] ∈ oneK i ↔ c < i := by
  unfold oneK
  simp
set_option maxHeartbeats 1000000 in
/-- law14.knows. -/
theorem s35 {w : World} {R : Value → World → Prop} (hR : ∀ w', Bel w w' → R (.bool true) w') : F35 w R := by
  unfold F35
  refine c27 (s27 (B := w.heap.size) (seed := 0) (Nat.le_refl _) fun w1 r g b1 h1 => ?_)
  have ht := tab_new h1
  clear h1
  refine ⟨fun s z => ∃ (i : Nat) (L : List Pm), s = [.int .u8 (i : Nat)] ∧ i ≤ 6 ∧ Bel w z ∧ Tab z w.heap.size r 0 L ∧ (ks L).Perm (oneK i), fun s _ => (6 - n0 s 0).toNat, ⟨0, _, rfl, by omega, b1, ht, by rw [ks_empty]; exact .refl _⟩, ?_⟩
  rintro s z ⟨i, L, rfl, hi, hz, hT, hp⟩
  have hpl : (ks L).length = i := by rw [hp.length_eq]; simp [oneK]
  simp
  refine ifD (fun h3 => ?_) (fun h3 => ?_)
  · have e1 : ((i : Int)) % 18446744073709551616 = i := by omega
    rw [e1]
    have hx := bx' z [.cells #[.int .u8 (i : Nat)] 5]
    have hk := kin_one (w := z) (r := r) (c := i) hT.lt (by omega)
    generalize ext z [.cells #[.int .u8 (i : Nat)] 5] = z1 at hx hk ⊢
    refine c28 (s28 (hT.bel hx) (bt hz hx) (by decide) hk (by omega) fun z2 L2 x b2 hT2 _ hres => ?_)
    obtain ⟨hx0, hres1⟩ := hres (by simp) (by simp)
    subst hx0
    have hp2 := hres1 (fun hin => by have := oneK_mem.1 (hp.mem_iff.1 hin); omega)
    simp
    have e2 : ((i : Int) + 1) % 256 = ((i + 1 : Nat) : Int) := by omega
    rw [e2]
    refine ⟨⟨i + 1, rfl, by omega, b2, L2, hT2, ?_⟩, by simp [n0]; omega⟩
    refine hp2.trans ((hp.cons _).trans ?_)
    unfold oneK
    rw [List.range_succ, List.map_append]
    exact (List.perm_append_singleton _ _).symm
  · obtain rfl : i = 6 := by omega
    obtain ⟨_, e, _, _, hl, hft, _⟩ := hT.out
    rw [hpl] at hft
    rw [ft6 hft] at hl
    refine c30 (slots_len hT fun z1 a c bz1 => ?_)
    rw [hl]
    have hT := hT.bel bz1
    have hz := bt hz bz1
    simp
    have hx := bx' z1 [.cells #[.int .u8 9] 5]
    have hk := kin_one (w := z1) (r := r) (c := 9) hT.lt (by omega)
    have hk : Kin (ext z1 [.cells #[.int .u8 9] 5]) r (.slice (some ⟨z1.heap.size, 0, none⟩) 1 1) [9] := hk
    have hT := hT.bel hx
    have hz := bt hz hx
    generalize ext z1 [.cells #[.int .u8 9] 5] = z2 at hT hz hk ⊢
    refine c28 (s28 hT hz (by decide) hk (by omega) fun z3 L3 x b3 hT3 _ hres => ?_)
    obtain ⟨_, hres1⟩ := hres (by simp) (by simp)
    have hp3 := hres1 (fun hin => by have := oneK_mem.1 (hp.mem_iff.1 hin); omega)
    have hpl3 : (ks L3).length = 7 := by rw [hp3.length_eq]; simp [hpl]
    obtain ⟨_, e3, _, _, hl3, hft3, _⟩ := hT3.out
    rw [hpl3] at hft3
    rw [ft7 hft3] at hl3
    refine c30 (slots_len hT3 fun z4 a4 c4 bz4 => ?_)
    rw [hl3]
    have hT := hT3.bel bz4
    have hz := bt b3 bz4
    simp
    have hx := bx' z4 [.cells #[.int .u8 9] 5]
    have hk : Kin (ext z4 [.cells #[.int .u8 9] 5]) r (.slice (some ⟨z4.heap.size, 0, none⟩) 1 1) [9] := kin_one (w := z4) (r := r) (c := 9) hT.lt (by omega)
    have hT := hT.bel hx
    have hz := bt hz hx
    generalize ext z4 [.cells #[.int .u8 9] 5] = z5 at hT hz hk ⊢
    refine c29 (s29 hT hz (by decide) hk (by omega) fun z6 L6 x b6 hT6 _ hres => ?_)
    obtain ⟨_, hp6⟩ := hres (by simp) (by simp) (hp3.mem_iff.2 List.mem_cons_self)
    have hpl6 : (ks L6).length = 6 := by have := hp6.length_eq; simp [hpl3] at this; omega
    have hno6 : [9] ∉ ks L6 := (List.nodup_cons.1 (hp6.nodup_iff.2 hT3.nd)).1
    obtain ⟨_, e6, _, _, hl6, hft6, _⟩ := hT6.out
    rw [hpl6] at hft6
    rw [ft6 hft6] at hl6
    have hx := bx' z6 [.cells #[.int .u8 9] 5]
    have hk : Kin (ext z6 [.cells #[.int .u8 9] 5]) r (.slice (some ⟨z6.heap.size, 0, none⟩) 1 1) [9] := kin_one (w := z6) (r := r) (c := 9) hT6.lt (by omega)
    have hT := hT6.bel hx
    have hz := bt b6 hx
    generalize ext z6 [.cells #[.int .u8 9] 5] = z7 at hT hz hk ⊢
    refine c34 (get_no hT (by decide) (hk.kb.bs (by simp)) hk.byte (by simp) hno6 fun z8 b8 => ?_)
    simp
    refine c30 (slots_len (hT.bel b8) fun z9 a9 c9 bz9 => ?_)
    rw [hl6]
    simp
    exact hR _ (bt hz (bt b8 bz9))
end Go.Proofs.Ytbcmoikpmmjlkaa
