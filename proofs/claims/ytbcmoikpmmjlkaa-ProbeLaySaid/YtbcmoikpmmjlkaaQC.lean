/- Law 14: a key's hash; its home. -/
import Derived.Test.YtbcmoikpmmjlkaaQB
namespace Go.Proofs.Ytbcmoikpmmjlkaa
open Go Eng
set_option maxRecDepth 100000
theorem pure_xorN {a b : Nat} (ha : a < 18446744073709551616) (hb : b < 18446744073709551616) (P : Program) (T : TypeId) (K : Value → Prop) :
    pureP P (binS .xor T (.int .u64 (a : Nat)) (.int .u64 (b : Nat))) K ↔ K (.int .u64 ((a ^^^ b : Nat) : Int)) := pureP_of fun w => by
  show (Op.intBits .xor .u64 (a : Nat) (b : Nat)).run P w = _
  have e1 : (BitVec.ofInt 64 (a : Nat)).toNat = a := by simp; omega
  have e2 : (BitVec.ofInt 64 (b : Nat)).toNat = b := by simp; omega
  have hx : a ^^^ b < 2 ^ 64 := Nat.xor_lt_two_pow (by omega) (by omega)
  unfold Op.intBits
  show Result.ok (Value.int .u64 (IntKind.u64.wrap ((BitVec.ofInt 64 (a : Nat) ^^^ BitVec.ofInt 64 (b : Nat)).toNat))) w = _
  rw [BitVec.toNat_xor, e1, e2, wrap_u64, Int.emod_eq_of_lt (by omega) (by omega)]
theorem pure_andN {k : IntKind} (hk : k = .u64 ∨ k = .i64) {a e : Nat} (ha : a < 9223372036854775808 ∨ (k = .u64 ∧ a < 18446744073709551616)) (he : e ≤ 20) (P : Program) (T : TypeId) (K : Value → Prop) :
    pureP P (binS .and T (.int k (a : Nat)) (.int k ((2 ^ e : Nat) - 1 : Nat))) K ↔ K (.int k ((a % 2 ^ e : Nat) : Int)) := pureP_of fun w => by
  have h2 : 2 ^ e ≤ 2 ^ 20 := Nat.pow_le_pow_right (by decide) he
  have hp : 0 < 2 ^ e := Nat.pow_pos (by decide)
  have ha' : a < 18446744073709551616 := by omega
  have e1 : (BitVec.ofInt 64 (a : Nat)).toNat = a := by simp; omega
  have e2 : (BitVec.ofInt 64 ((2 ^ e - 1 : Nat) : Int)).toNat = 2 ^ e - 1 := by rw [BitVec.toNat_ofInt]; omega
  have hm := Nat.mod_lt a hp
  rcases hk with rfl | rfl
  · show (Op.intBits .and .u64 (a : Nat) ((2 ^ e - 1 : Nat) : Int)).run P w = _
    unfold Op.intBits
    show Result.ok (Value.int .u64 (IntKind.u64.wrap ((BitVec.ofInt 64 (a : Nat) &&& BitVec.ofInt 64 ((2 ^ e - 1 : Nat) : Int)).toNat))) w = _
    rw [BitVec.toNat_and, e1, e2, Nat.and_two_pow_sub_one_eq_mod, wrap_u64, Int.emod_eq_of_lt (by omega) (by omega)]
  · show (Op.intBits .and .i64 (a : Nat) ((2 ^ e - 1 : Nat) : Int)).run P w = _
    unfold Op.intBits
    show Result.ok (Value.int .i64 (IntKind.i64.wrap ((BitVec.ofInt 64 (a : Nat) &&& BitVec.ofInt 64 ((2 ^ e - 1 : Nat) : Int)).toNat))) w = _
    rw [BitVec.toNat_and, e1, e2, Nat.and_two_pow_sub_one_eq_mod, wrap_i64 (by omega) (by omega)]
theorem pure_shr32 (P : Program) (T : TypeId) (n : Nat) (K : Value → Prop) : pureP P (binS .shr T (.int .u64 (n : Nat)) (.int .u64 32)) K ↔ K (.int .u64 ((n / 4294967296 : Nat) : Int)) := pureP_of fun w => by
  show (Op.shift .shr .u64 (n : Nat) .u64 32).run P w = _
  unfold Op.shift
  rw [if_neg (by decide)]
  show Result.ok (Value.int .u64 (Int.fdiv (n : Int) 4294967296)) w = _
  rw [Int.fdiv_eq_ediv_of_nonneg _ (by decide)]
  rfl
def hstep (h w : Nat) : Nat := (((h ^^^ w) * 13787848793156543929) % 18446744073709551616) ^^^ ((((h ^^^ w) * 13787848793156543929) % 18446744073709551616) / 4294967296)
def hashI (seed : Nat) (k : List Nat) : Nat → Nat
  | 0 => seed ^^^ ((k.length * 11400714819323198485) % 18446744073709551616)
  | i + 1 => hstep (hashI seed k i) (leW (chunk k i))
def hashOf (seed : Nat) (k : List Nat) : Nat := hashI seed k ((k.length + 7) / 8)
theorem hstep_lt (h w : Nat) : hstep h w < 18446744073709551616 := by
  unfold hstep
  exact Nat.xor_lt_two_pow (n := 64) (by omega) (by omega)
theorem hashI_lt {seed : Nat} (hs : seed < 18446744073709551616) (k : List Nat) : ∀ i, hashI seed k i < 18446744073709551616
  | 0 => Nat.xor_lt_two_pow (n := 64) (by omega) (by omega)
  | i + 1 => hstep_lt _ _
theorem leW_64 {k : List Nat} (hk : ∀ x ∈ k, x < 256) (i : Nat) : leW (chunk k i) < 18446744073709551616 := by
  have h1 := leW_lt (chunk_mem hk (i := i))
  have h2 : 256 ^ (chunk k i).length ≤ 256 ^ 8 := Nat.pow_le_pow_right (by decide) (by rw [chunk_length]; omega)
  omega
/-- key.Hash. -/
theorem s32 {w : World} {seed : Nat} {v : Value} {k : List Nat} (hs : seed < 18446744073709551616) (hb : Bs w v k) (hk : ∀ x ∈ k, x < 256) (h2 : k.length ≤ 1000) {R : Value → World → Prop} (hR : ∀ w', Bel w w' → R (.int .u64 (hashOf seed k : Nat)) w') : F32 (.int .u64 (seed : Nat)) v w R := by
  obtain ⟨b, off, c, rfl, hc, hat⟩ := hb
  unfold F32
  have e1 : (k.length : Int) % 18446744073709551616 * 11400714819323198485 % 18446744073709551616 = (((k.length * 11400714819323198485) % 18446744073709551616 : Nat) : Int) := by
    have e0 : (k.length : Int) % 18446744073709551616 = k.length := by omega
    rw [e0]
    omega
  simp
  rw [e1]
  refine (pure_xorN hs (by omega) _ _ _).2 ?_
  have h0 : seed ^^^ ((k.length * 11400714819323198485) % 18446744073709551616) = hashI seed k 0 := rfl
  rw [h0]
  simp
  refine c69 ?_
  simp [F69]
  have hlt := hat.lt
  have hw0 : Bel w (ext w [.cells #[.int .u64 (hashI seed k 0 : Nat)] 35, .cells #[.slice (some ⟨b, off, none⟩) k.length c] 36]) := bx' _ _
  generalize hu : ext w [.cells #[.int .u64 (hashI seed k 0 : Nat)] 35, .cells #[.slice (some ⟨b, off, none⟩) k.length c] 36] = u at hw0 ⊢
  have g0 : hp u w.heap.size = some (.cells #[.int .u64 (hashI seed k 0 : Nat)] 35) := by rw [← hu]; simp
  have g1 : hp u (w.heap.size + 1) = some (.cells #[.slice (some ⟨b, off, none⟩) k.length c] 36) := by rw [← hu]; simp
  have hsz : u.heap.size = w.heap.size + 2 := by rw [← hu]; simp
  refine ⟨83, #[.pointer (some ⟨w.heap.size + 1, 0, none⟩)], _, fun i W => Bel w W ∧ u.heap.size ≤ W.heap.size ∧ hp W w.heap.size = some (.cells #[.int .u64 (hashI seed k i : Nat)] 35) ∧ hp W (w.heap.size + 1) = some (.cells #[.slice (some ⟨b, off, none⟩) k.length c] 36),
    wordsOf k, rfl, ?_, it83 (tb := w.heap.size + 1) (b := b) (off := off) (c := c) hk hc (by omega), ?_, ?_, ?_, ?_, ?_, ?_⟩
  · exact callFunc_enters Try.func83 (by kernel_rfl) (by kernel_rfl)
  · intro x hx
    obtain ⟨i, _, rfl⟩ := List.mem_map.1 hx
    rfl
  · rintro i W ⟨hB, _, _, g⟩
    exact ⟨g, hat.bel hB⟩
  · exact ⟨hw0, Nat.le_refl _, g0, g1⟩
  · rintro i W W' ⟨hB, h4, e0, e1⟩ hS
    refine ⟨hB.trans (hS.mono (by omega)), Nat.le_trans h4 hS.size, ?_, ?_⟩
    · rw [← e0]; exact hS.block _ (by omega)
    · rw [← e1]; exact hS.block _ (by omega)
  · rintro i x W hx ⟨hB, h4, e0, e1⟩ h5
    have hi : i < (k.length + 7) / 8 := by rw [← wordsOf_length]; exact (List.getElem?_eq_some_iff.1 hx).1
    rw [wordsOf_at (by omega)] at hx
    injection hx with hx
    subst hx
    simp [e0]
    refine (pure_xorN (hashI_lt hs k i) (leW_64 hk i) _ _ _).2 ?_
    have e2 : (((hashI seed k i ^^^ leW (chunk k i) : Nat) : Int) * 13787848793156543929) % 18446744073709551616 = (((hashI seed k i ^^^ leW (chunk k i)) * 13787848793156543929 % 18446744073709551616 : Nat) : Int) := by omega
    simp
    rw [e2]
    have hnext : hashI seed k (i + 1) = ((hashI seed k i ^^^ leW (chunk k i)) * 13787848793156543929 % 18446744073709551616) ^^^ (((hashI seed k i ^^^ leW (chunk k i)) * 13787848793156543929 % 18446744073709551616) / 4294967296) := rfl
    have hy : (hashI seed k i ^^^ leW (chunk k i)) * 13787848793156543929 % 18446744073709551616 < 18446744073709551616 := Nat.mod_lt _ (by decide)
    generalize (hashI seed k i ^^^ leW (chunk k i)) * 13787848793156543929 % 18446744073709551616 = y at hnext hy
    clear e2
    simp [e0]
    refine (pure_shr32 _ _ _ _).2 ?_
    refine (pure_xorN hy (by omega) _ _ _).2 ?_
    rw [← hnext]
    simp [e0, e1]
    refine ⟨⟨bu hB (Nat.le_refl _) _, by omega⟩, by simp, fun j hj _ => ?_⟩
    exact upd_ne _ _ _ _ (by omega)
  · rintro W D ⟨hB, h4, e0, e1⟩ h5 h6 h7
    have h7' : hp W D = some (.deferred (some [])) := h7
    simp [e0]
    refine takeD_of h7' ?_
    rw [wordsOf_length]
    exact hR _ (bu hB (by omega) _)
end Go.Proofs.Ytbcmoikpmmjlkaa
