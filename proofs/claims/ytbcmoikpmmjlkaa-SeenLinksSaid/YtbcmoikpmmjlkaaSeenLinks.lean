/- The row of SeenLinks: proved as it was given. -/
import Derived.Test.YtbcmoikpmmjlkaaX5
import Derived.Test.YtbcmoikpmmjlkaaO
namespace Go.Proofs.Ytbcmoikpmmjlkaa
open Go Eng Go.ChangeShapes Go.WideShapes Go.ChangeAt Go.RowKit
set_option maxRecDepth 100000
theorem cellsOf5 : Try.prog.cellsOf 5 = 1 := by kernel_rfl
theorem byte_of {H : Type} {enc : TypeId × Value → H} {W : World} (n : Nat) (cs : List Value) (y : DataW H × List MemPlace) (h : DataW.trod enc Try.prog W 0 (fun _ => true) true n 5 cs = some y) (_hl : cs.length = 1) : ∃ a : Int, cs = encBy a ∧ (0 ≤ a ∧ a ≤ 255) := by
  obtain ⟨a0, h0, _, w0⟩ := DataW.trod_int Try.underlying5 h
  subst h0
  have r0 : 0 ≤ a0 ∧ a0 ≤ 255 := by simpa [Lit.wf, IntKind.min, IntKind.max, IntKind.signed, IntKind.bits] using w0
  exact ⟨a0, rfl, r0⟩
theorem s4_contract (H : Type) (enc : TypeId × Value → H) (W : World) (base : Nat) (args : Array Value) (ds gs : List (DataW H)) (before : List MemPlace)
    (hval : ∀ (j : Nat) t v, Try.f4.params[j]? = some t → args[j]? = some v → Value.okWide Try.prog W .any base t v)
    (hW : DataW.Whole enc Try.prog Try.f4.params.toList Rows.seenLinksSpec.vars false W args.toList ds gs before) :
    Calls Try.prog 4 args W fun e W' => ∃ v, e = .returned v ∧ Rows.seenLinksSpec.post enc Try.prog Try.f4 false true false false W args v W' := by
  have hW' := hW
  obtain ⟨p, q, hA0, hV, rfl, hfz, hnd⟩ := hW
  have hA : DataW.TrodAll enc Try.prog W 0 (fun _ => true) true Try.f4.params.toList args.toList ds p := hA0
  rw [Try.params4] at hA hval
  obtain ⟨v0, v1, d0, d1, p0, p1, rfl, rfl, rfl, h0, h1⟩ := trodAll_two hA
  obtain ⟨rfl, rfl⟩ := trodVars_none hV
  obtain ⟨n, rfl, rfl, rfl, wn⟩ := open_int Try.underlying5 (hval 1 5 v1 rfl rfl) h1
  obtain ⟨a0, len, cap, rfl⟩ := okWide_slice Try.underlying36 (hval 0 36 v0 rfl rfl)
  obtain ⟨fuel, hf⟩ := h0
  obtain ⟨l, hrd, hok, _⟩ := rd_of (enc' := encBy) (P := fun a => 0 ≤ a ∧ a ≤ 255) Try.underlying36 cellsOf5 (by decide) ⟨_, _, _, rfl⟩ hf (fun n cs y => byte_of n cs y)
  have hn : 0 ≤ n ∧ n ≤ 255 := by simpa [Lit.wf, IntKind.min, IntKind.max, IntKind.signed, IntKind.bits] using wn
  refine (f4 (R := fun v W' => v = .bool true ∧ Bel W W') (s4 hrd hok hn fun w' hb => ⟨rfl, hb⟩)).mono fun e W' he => ?_
  cases e with
  | returned v =>
    obtain ⟨hv, hb⟩ : v = .bool true ∧ Bel W W' := he
    subst hv
    exact ⟨_, rfl, post_true hW' rfl (by rw [Try.params4]; decide +kernel) (by kernel_rfl) rfl rfl rfl hb⟩
  | panicked _ => exact he.elim
  | outgrown => exact he.elim
theorem seenLinks_lifted (os : Os) (started : os.Started) (H : Type) (enc : TypeId × Value → H) :
    ReturnsInHanded {} Try.checked os 4 .any (Rows.seenLinksSpec.pre6 enc Try.prog Try.f4 Rows.seenLinksRow.domain false) (Rows.seenLinksSpec.post enc Try.prog Try.f4 false true false false) := by
  refine returnsInHanded_of_change (C := Try.checked) own started (by kernel_rfl) Try.func4
    (ChangeSpec.witness6 (enc := enc) (C := Try.checked) false ⟨#[], #[.slice none 0 0, .int .u8 0], []⟩ 8 (by kernel_rfl) (by kernel_rfl) (by kernel_rfl) (by kernel_rfl)) ?_
  intro W base args ds gs before hval hW _ _
  exact s4_contract H enc W base args ds gs before hval hW
theorem seenLinks : Rows.SeenLinksSaid :=
  OpenClaim.holds_of_wide 4 Try.f4 rfl rfl rfl rfl rfl rfl rfl ⟨rfl, rfl, rfl, rfl, rfl⟩ rfl rfl rfl rfl rfl (by kernel_rfl) Try.func4 (by kernel_rfl)
    (of_decide_eq_true (by kernel_rfl)) (by unfold Func.isWrapper; first | (rw [if_pos (by decide +kernel)]; kernel_rfl) | (rw [if_neg (by decide +kernel)]; exact ⟨rfl, rfl⟩))
    (fun os started H enc _ => seenLinks_lifted os started H enc)
#print axioms seenLinks
end Go.Proofs.Ytbcmoikpmmjlkaa
