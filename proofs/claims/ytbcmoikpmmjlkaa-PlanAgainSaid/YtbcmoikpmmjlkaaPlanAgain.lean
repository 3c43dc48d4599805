/- The row of PlanAgain: proved as it was given. -/
import Derived.Test.YtbcmoikpmmjlkaaPR
import Derived.Test.YtbcmoikpmmjlkaaPE
namespace Go.Proofs.Ytbcmoikpmmjlkaa
open Go Eng Go.ChangeShapes Go.WideShapes Go.ChangeAt Go.RowKit
set_option maxRecDepth 100000
theorem s6_contract (H : Type) (enc : TypeId × Value → H) (W : World) (base : Nat) (args : Array Value) (ds gs : List (DataW H)) (before : List MemPlace)
    (hval : ∀ (j : Nat) t v, Try.f6.params[j]? = some t → args[j]? = some v → Value.okWide Try.prog W .any base t v)
    (hW : DataW.Whole enc Try.prog Try.f6.params.toList Rows.planAgainSpec.vars false W args.toList ds gs before) :
    Calls Try.prog 6 args W fun e W' => ∃ v, e = .returned v ∧ Rows.planAgainSpec.post enc Try.prog Try.f6 false true false false W args v W' := by
  have hW' := hW
  obtain ⟨p, q, hA0, hV, rfl, hfz, hnd⟩ := hW
  have hA : DataW.TrodAll enc Try.prog W 0 (fun _ => true) true Try.f6.params.toList args.toList ds p := hA0
  rw [Try.params6] at hA hval
  obtain ⟨v0, v1, d0, d1, p0, p1, rfl, rfl, rfl, h0, h1⟩ := trodAll_two hA
  obtain ⟨rfl, rfl⟩ := trodVars_none hV
  obtain ⟨a0, len, cap, rfl⟩ := okWide_slice Try.underlying61 (hval 0 61 v0 rfl rfl)
  obtain ⟨a1, len1, cap1, rfl⟩ := okWide_slice Try.underlying36 (hval 1 36 v1 rfl rfl)
  obtain ⟨fuel, hf⟩ := h0
  obtain ⟨fuel1, hf1⟩ := h1
  obtain ⟨l, hrd, hok, _⟩ := rd_of (enc' := encWr) (P := Wr.ok) Try.underlying61 cellsOf146 (by decide) ⟨_, _, _, rfl⟩ hf (fun n cs y => write_of n cs y)
  obtain ⟨nb, hrd1, hok1, _⟩ := rd_of (enc' := encBt) (P := fun a => 0 ≤ a ∧ a ≤ 255) Try.underlying36 cellsOf5 (by decide) ⟨_, _, _, rfl⟩ hf1 (fun n cs y => byte_of n cs y)
  refine (f6 (R := fun v W' => v = .bool true ∧ Bel W W') (s6 hrd hok hrd1 hok1 fun w' hb => ⟨rfl, hb⟩)).mono fun e W' he => ?_
  cases e with
  | returned v =>
    obtain ⟨hv, hb⟩ : v = .bool true ∧ Bel W W' := he
    subst hv
    exact ⟨_, rfl, post_true hW' rfl (by rw [Try.params6]; decide +kernel) (by kernel_rfl) rfl rfl rfl hb⟩
  | panicked _ => exact he.elim
  | outgrown => exact he.elim
theorem planAgain_lifted (os : Os) (started : os.Started) (H : Type) (enc : TypeId × Value → H) :
    ReturnsInHanded {} Try.checked os 6 .any (Rows.planAgainSpec.pre6 enc Try.prog Try.f6 Rows.planAgainRow.domain false) (Rows.planAgainSpec.post enc Try.prog Try.f6 false true false false) := by
  refine returnsInHanded_of_change (C := Try.checked) own started (by kernel_rfl) Try.func6
    (ChangeSpec.witness6 (enc := enc) (C := Try.checked) false ⟨#[], #[.slice none 0 0, .slice none 0 0], []⟩ 8 (by kernel_rfl) (by kernel_rfl) (by kernel_rfl) (by kernel_rfl)) ?_
  intro W base args ds gs before hval hW _ _
  exact s6_contract H enc W base args ds gs before hval hW
theorem planAgain : Rows.PlanAgainSaid :=
  OpenClaim.holds_of_wide 6 Try.f6 rfl rfl rfl rfl rfl rfl rfl ⟨rfl, rfl, rfl, rfl, rfl⟩ rfl rfl rfl rfl rfl (by kernel_rfl) Try.func6 (by kernel_rfl)
    (of_decide_eq_true (by kernel_rfl)) (by unfold Func.isWrapper; first | (rw [if_pos (by decide +kernel)]; kernel_rfl) | (rw [if_neg (by decide +kernel)]; exact ⟨rfl, rfl⟩))
    (fun os started H enc _ => planAgain_lifted os started H enc)
#print axioms planAgain
end Go.Proofs.Ytbcmoikpmmjlkaa
