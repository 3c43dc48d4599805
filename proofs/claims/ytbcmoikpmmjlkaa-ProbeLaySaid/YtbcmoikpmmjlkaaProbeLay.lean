/- The row of ProbeLay: proved as it was given. -/
import Derived.Test.YtbcmoikpmmjlkaaQQ
import Derived.Test.YtbcmoikpmmjlkaaPR
namespace Go.Proofs.Ytbcmoikpmmjlkaa
open Go Eng Go.ChangeShapes Go.WideShapes Go.ChangeAt Go.RowKit
set_option maxRecDepth 100000
instance : Inhabited Kv := ⟨⟨none, 0, []⟩⟩
theorem cellsOf36 : Try.prog.cellsOf 36 = 1 := by kernel_rfl
/-- A slice of bytes that came in. -/
theorem bytes_of {H : Type} {enc : TypeId × Value → H} {W : World} {n : Nat} {v : Value} {y : DataW H × List MemPlace} (h : DataW.trod enc Try.prog W 0 (fun _ => true) true n 36 [v] = some y) :
    ∃ (a : Option Addr) (c : Nat) (k : List Nat), v = .slice a k.length c ∧ k.length ≤ c ∧ (k ≠ [] → Bs W v k) ∧ ∀ x ∈ k, x < 256 := by
  have hv : ∃ a n c, v = .slice a n c ∧ n ≤ c := by
    rcases Deep.open_slice Try.underlying36 h with ⟨hc, _⟩ | ⟨a, len, cap, m, n, D, Pl, hc, _, hl, _⟩
    · injection hc with hc _; exact ⟨none, 0, 0, hc, Nat.le_refl _⟩
    · injection hc with hc _; exact ⟨some a, len, cap, hc, hl⟩
  obtain ⟨a, n0, c, rfl, hle⟩ := hv
  obtain ⟨l, ⟨a1, c1, e, hat⟩, hP, _⟩ := rd_of (enc' := encBt) (P := fun a => 0 ≤ a ∧ a ≤ 255) Try.underlying36 cellsOf5 (by decide) ⟨_, _, _, rfl⟩ h (fun n cs y => byte_of n cs y)
  injection e with e1 e2 e3
  subst e1; subst e2; subst e3
  refine ⟨a, c, l.map Int.toNat, by simp, by simpa using hle, fun hn => ?_, fun x hx => ?_⟩
  · have h0 : 0 < l.length := by
      cases l with
      | nil => exact absurd rfl hn
      | cons x l => simp
    obtain ⟨b, off, rfl, cs, E, fr, hb, _⟩ := hat 0 _ (List.getElem?_eq_getElem h0)
    refine ⟨b, off, c, by simp, by simpa using hle, cs, E, fr, hb, fun j u hu => ?_⟩
    unfold byC at hu
    rw [List.getElem?_map, List.getElem?_map, Option.map_map] at hu
    obtain ⟨x, hx, rfl⟩ := Option.map_eq_some_iff.1 hu
    obtain ⟨b', off', e, cs', E', fr', hb', h2⟩ := hat j x hx
    injection e with e
    injection e with e4 e5
    subst e4; subst e5
    rw [hb] at hb'
    injection hb' with hb'
    injection hb' with hb' _ _
    subst hb'
    have := h2 0 (.int .u8 x) rfl
    rw [Nat.mul_one, Nat.add_zero] at this
    rw [this]
    have := (hP x (List.mem_of_getElem? hx)).1
    simp only [Function.comp]
    rw [Int.toNat_of_nonneg this]
  · obtain ⟨y, hy, rfl⟩ := List.mem_map.1 hx
    have := hP y hy
    omega
/-- A key that came in. -/
theorem key_of {H : Type} {enc : TypeId × Value → H} {W : World} (n : Nat) (cs : List Value) (y : DataW H × List MemPlace) (h : DataW.trod enc Try.prog W 0 (fun _ => true) true n 36 cs = some y) (hl : cs.length = 1) : ∃ a : Kv, cs = encKv a ∧ KvOk W a := by
  match cs, hl with
  | [v], _ =>
    obtain ⟨ka, kc, k, rfl, k1, k2, k3⟩ := bytes_of h
    exact ⟨⟨ka, kc, k⟩, rfl, k1, k2, k3⟩
theorem s8_contract (H : Type) (enc : TypeId × Value → H) (W : World) (base : Nat) (args : Array Value) (ds gs : List (DataW H)) (before : List MemPlace)
    (hval : ∀ (j : Nat) t v, Try.f8.params[j]? = some t → args[j]? = some v → Value.okWide Try.prog W .any base t v)
    (hW : DataW.Whole enc Try.prog Try.f8.params.toList Rows.probeLaySpec.vars false W args.toList ds gs before) :
    Calls Try.prog 8 args W fun e W' => ∃ v, e = .returned v ∧ Rows.probeLaySpec.post enc Try.prog Try.f8 false true false false W args v W' := by
  have hW' := hW
  obtain ⟨p, q, hA0, hV, rfl, hfz, hnd⟩ := hW
  have hA : DataW.TrodAll enc Try.prog W 0 (fun _ => true) true Try.f8.params.toList args.toList ds p := hA0
  rw [Try.params8] at hA hval
  obtain ⟨v0, v1, v2, d0, d1, d2, p0, p1, p2, rfl, rfl, rfl, h0, h1, h2⟩ := trodAll_three hA
  obtain ⟨rfl, rfl⟩ := trodVars_none hV
  obtain ⟨sd, rfl, rfl, rfl, wsd⟩ := open_int Try.underlying35 (hval 0 35 v0 rfl rfl) h0
  obtain ⟨gn, rfl, rfl, rfl, wgn⟩ := open_int Try.underlying5 (hval 2 5 v2 rfl rfl) h2
  obtain ⟨a0, len, cap, rfl⟩ := okWide_slice Try.underlying88 (hval 1 88 v1 rfl rfl)
  obtain ⟨fuel, hf⟩ := h1
  obtain ⟨l, hrd, hok, _⟩ := rd_of (enc' := encKv) (P := KvOk W) Try.underlying88 cellsOf36 (by decide) ⟨_, _, _, rfl⟩ hf (fun n cs y => key_of n cs y)
  have hsd : 0 ≤ sd ∧ sd ≤ 18446744073709551615 := by simpa [Lit.wf, IntKind.min, IntKind.max, IntKind.signed, IntKind.bits] using wsd
  have hgn : 0 ≤ gn ∧ gn ≤ 255 := by simpa [Lit.wf, IntKind.min, IntKind.max, IntKind.signed, IntKind.bits] using wgn
  obtain ⟨sn, rfl⟩ := Int.eq_ofNat_of_zero_le hsd.1
  refine (f8 (R := fun v W' => v = .bool true ∧ Bel W W') (s8 (seed := sn) (by omega) hrd hok hgn fun w' hb => ⟨rfl, hb⟩)).mono fun e W' he => ?_
  cases e with
  | returned v =>
    obtain ⟨hv, hb⟩ : v = .bool true ∧ Bel W W' := he
    subst hv
    exact ⟨_, rfl, post_true hW' rfl (by rw [Try.params8]; decide +kernel) (by kernel_rfl) rfl rfl rfl hb⟩
  | panicked _ => exact he.elim
  | outgrown => exact he.elim
theorem probeLay_lifted (os : Os) (started : os.Started) (H : Type) (enc : TypeId × Value → H) :
    ReturnsInHanded {} Try.checked os 8 .any (Rows.probeLaySpec.pre6 enc Try.prog Try.f8 Rows.probeLayRow.domain false) (Rows.probeLaySpec.post enc Try.prog Try.f8 false true false false) := by
  refine returnsInHanded_of_change (C := Try.checked) own started (by kernel_rfl) Try.func8
    (ChangeSpec.witness6 (enc := enc) (C := Try.checked) false ⟨#[], #[.int .u64 0, .slice none 0 0, .int .u8 0], []⟩ 8 (by kernel_rfl) (by kernel_rfl) (by kernel_rfl) (by kernel_rfl)) ?_
  intro W base args ds gs before hval hW _ _
  exact s8_contract H enc W base args ds gs before hval hW
theorem probeLay : Rows.ProbeLaySaid :=
  OpenClaim.holds_of_wide 8 Try.f8 rfl rfl rfl rfl rfl rfl rfl ⟨rfl, rfl, rfl, rfl, rfl⟩ rfl rfl rfl rfl rfl (by kernel_rfl) Try.func8 (by kernel_rfl)
    (of_decide_eq_true (by kernel_rfl)) (by unfold Func.isWrapper; first | (rw [if_pos (by decide +kernel)]; kernel_rfl) | (rw [if_neg (by decide +kernel)]; exact ⟨rfl, rfl⟩))
    (fun os started H enc _ => probeLay_lifted os started H enc)
#print axioms probeLay
end Go.Proofs.Ytbcmoikpmmjlkaa
