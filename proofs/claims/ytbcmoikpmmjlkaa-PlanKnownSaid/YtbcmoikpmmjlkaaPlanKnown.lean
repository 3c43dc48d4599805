/- The row of PlanKnown: proved as it was given. -/
import Derived.Test.YtbcmoikpmmjlkaaP9
import Derived.Test.YtbcmoikpmmjlkaaO
namespace Go.Proofs.Ytbcmoikpmmjlkaa
open Go Eng Go.ChangeShapes Go.WideShapes Go.ChangeAt Go.RowKit
set_option maxRecDepth 100000
theorem s7_contract (H : Type) (enc : TypeId × Value → H) (W : World) (args : Array Value) (ds gs : List (DataW H)) (before : List MemPlace)
    (hW : DataW.Whole enc Try.prog Try.f7.params.toList Rows.planKnownSpec.vars false W args.toList ds gs before) :
    Calls Try.prog 7 args W fun e W' => ∃ v, e = .returned v ∧ Rows.planKnownSpec.post enc Try.prog Try.f7 false true false false W args v W' := by
  have hW' := hW
  obtain ⟨p, q, hA0, hV, rfl, hfz, hnd⟩ := hW
  have hA : DataW.TrodAll enc Try.prog W 0 (fun _ => true) true Try.f7.params.toList args.toList ds p := hA0
  rw [Try.params7] at hA
  obtain ⟨rfl, rfl⟩ := trodVars_none hV
  have hargs : args = #[] ∧ ds = [] := by
    obtain ⟨l⟩ := args
    cases l with
    | nil => cases ds with
      | nil => exact ⟨rfl, rfl⟩
      | cons d ds => exact absurd hA (by simp [DataW.TrodAll])
    | cons v l => exact absurd hA (by cases ds <;> simp [DataW.TrodAll])
  obtain ⟨rfl, rfl⟩ := hargs
  refine (f7 (R := fun v W' => v = .bool true ∧ Bel W W') (s7 fun w' hb => ⟨rfl, hb⟩)).mono fun e W' he => ?_
  cases e with
  | returned v =>
    obtain ⟨hv, hb⟩ : v = .bool true ∧ Bel W W' := he
    subst hv
    exact ⟨_, rfl, post_true hW' rfl (by rw [Try.params7]; decide +kernel) (by kernel_rfl) rfl rfl rfl hb⟩
  | panicked _ => exact he.elim
  | outgrown => exact he.elim
theorem planKnown_lifted (os : Os) (started : os.Started) (H : Type) (enc : TypeId × Value → H) :
    ReturnsInHanded {} Try.checked os 7 .any (Rows.planKnownSpec.pre6 enc Try.prog Try.f7 Rows.planKnownRow.domain false) (Rows.planKnownSpec.post enc Try.prog Try.f7 false true false false) := by
  refine returnsInHanded_of_change (C := Try.checked) own started (by kernel_rfl) Try.func7
    (ChangeSpec.witness6 (enc := enc) (C := Try.checked) false ⟨#[], #[], []⟩ 8 (by kernel_rfl) (by kernel_rfl) (by kernel_rfl) (by kernel_rfl)) ?_
  intro W base args ds gs before hval hW _ _
  exact s7_contract H enc W args ds gs before hW
theorem planKnown : Rows.PlanKnownSaid :=
  OpenClaim.holds_of_wide 7 Try.f7 rfl rfl rfl rfl rfl rfl rfl ⟨rfl, rfl, rfl, rfl, rfl⟩ rfl rfl rfl rfl rfl (by kernel_rfl) Try.func7 (by kernel_rfl)
    (of_decide_eq_true (by kernel_rfl)) (by unfold Func.isWrapper; first | (rw [if_pos (by decide +kernel)]; kernel_rfl) | (rw [if_neg (by decide +kernel)]; exact ⟨rfl, rfl⟩))
    (fun os started H enc _ => planKnown_lifted os started H enc)
#print axioms planKnown
end Go.Proofs.Ytbcmoikpmmjlkaa
