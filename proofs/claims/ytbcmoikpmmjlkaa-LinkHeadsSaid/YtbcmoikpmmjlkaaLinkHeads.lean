/- The row of LinkHeads: proved as it was given. -/
import Derived.Test.YtbcmoikpmmjlkaaW3
import Derived.Test.YtbcmoikpmmjlkaaO
namespace Go.Proofs.Ytbcmoikpmmjlkaa
open Go Eng Go.ChangeShapes Go.WideShapes Go.ChangeAt Go.RowKit
set_option maxRecDepth 100000
instance : Inhabited Stp := ⟨⟨0, 0, false⟩⟩
theorem cells123 : Try.prog.cellsOf 123 = 3 := by kernel_rfl
theorem cells5 : Try.prog.cellsOf 5 = 1 := by kernel_rfl
theorem cells4 : Try.prog.cellsOf 4 = 1 := by kernel_rfl
theorem step_of {H : Type} {enc : TypeId × Value → H} {W : World} (n : Nat) (cs : List Value) (y : DataW H × List MemPlace) (h : DataW.trod enc Try.prog W 0 (fun _ => true) true n 123 cs = some y) (hl : cs.length = 3) : ∃ a : Stp, cs = encSt a ∧ a.ok := by
  obtain ⟨xs, m, _, _, _, hxl, hf⟩ := DataW.trod_struct Try.underlying123 h
  match cs, hl with
  | [u, v, b], _ =>
    have e0 := hf 0 _ rfl
    have e1 := hf 1 _ rfl
    have e2 := hf 2 _ rfl
    simp [cells5, cells4] at e0 e1 e2
    have hx3 : xs.length = 3 := hxl
    rw [List.getElem?_eq_getElem (by omega)] at e0 e1 e2
    obtain ⟨a0, h0, _, w0⟩ := DataW.trod_int Try.underlying5 e0
    obtain ⟨a1, h1, _, w1⟩ := DataW.trod_int Try.underlying5 e1
    obtain ⟨a2, h2, _⟩ := DataW.trod_bool Try.underlying4 e2
    injection h0 with h0 _
    injection h1 with h1 _
    injection h2 with h2 _
    subst h0; subst h1; subst h2
    have r0 : 0 ≤ a0 ∧ a0 ≤ 255 := by simpa [Lit.wf, IntKind.min, IntKind.max, IntKind.signed, IntKind.bits] using w0
    have r1 : 0 ≤ a1 ∧ a1 ≤ 255 := by simpa [Lit.wf, IntKind.min, IntKind.max, IntKind.signed, IntKind.bits] using w1
    exact ⟨⟨a0, a1, a2⟩, rfl, r0.1, r0.2, r1.1, r1.2⟩
theorem s3_contract (H : Type) (enc : TypeId × Value → H) (W : World) (base : Nat) (args : Array Value) (ds gs : List (DataW H)) (before : List MemPlace)
    (hval : ∀ (j : Nat) t v, Try.f3.params[j]? = some t → args[j]? = some v → Value.okWide Try.prog W .any base t v)
    (hW : DataW.Whole enc Try.prog Try.f3.params.toList Rows.linkHeadsSpec.vars false W args.toList ds gs before) :
    Calls Try.prog 3 args W fun e W' => ∃ v, e = .returned v ∧ Rows.linkHeadsSpec.post enc Try.prog Try.f3 false true false false W args v W' := by
  have hW' := hW
  obtain ⟨p, q, hA0, hV, rfl, hfz, hnd⟩ := hW
  have hA : DataW.TrodAll enc Try.prog W 0 (fun _ => true) true Try.f3.params.toList args.toList ds p := hA0
  rw [Try.params3] at hA hval
  obtain ⟨v0, v1, d0, d1, p0, p1, rfl, rfl, rfl, h0, h1⟩ := trodAll_two hA
  obtain ⟨rfl, rfl⟩ := trodVars_none hV
  obtain ⟨n, rfl, rfl, rfl, wn⟩ := open_int Try.underlying5 (hval 1 5 v1 rfl rfl) h1
  obtain ⟨a0, len, cap, rfl⟩ := okWide_slice Try.underlying22 (hval 0 22 v0 rfl rfl)
  obtain ⟨fuel, hf⟩ := h0
  obtain ⟨l, hrd, hok, _⟩ := rd_of (enc' := encSt) (P := Stp.ok) Try.underlying22 cells123 (by decide) ⟨_, _, _, rfl⟩ hf (fun n cs y => step_of n cs y)
  have hn : 0 ≤ n ∧ n ≤ 255 := by simpa [Lit.wf, IntKind.min, IntKind.max, IntKind.signed, IntKind.bits] using wn
  refine (f3 (R := fun v W' => v = .bool true ∧ Bel W W') (s3 hrd hok hn fun w' hb => ⟨rfl, hb⟩)).mono fun e W' he => ?_
  cases e with
  | returned v =>
    obtain ⟨hv, hb⟩ : v = .bool true ∧ Bel W W' := he
    subst hv
    exact ⟨_, rfl, post_true hW' rfl (by rw [Try.params3]; decide +kernel) (by kernel_rfl) rfl rfl rfl hb⟩
  | panicked _ => exact he.elim
  | outgrown => exact he.elim
theorem linkHeads_lifted (os : Os) (started : os.Started) (H : Type) (enc : TypeId × Value → H) :
    ReturnsInHanded {} Try.checked os 3 .any (Rows.linkHeadsSpec.pre6 enc Try.prog Try.f3 Rows.linkHeadsRow.domain false) (Rows.linkHeadsSpec.post enc Try.prog Try.f3 false true false false) := by
  refine returnsInHanded_of_change (C := Try.checked) own started (by kernel_rfl) Try.func3
    (ChangeSpec.witness6 (enc := enc) (C := Try.checked) false ⟨#[], #[.slice none 0 0, .int .u8 0], []⟩ 8 (by kernel_rfl) (by kernel_rfl) (by kernel_rfl) (by kernel_rfl)) ?_
  intro W base args ds gs before hval hW _ _
  exact s3_contract H enc W base args ds gs before hval hW
theorem linkHeads : Rows.LinkHeadsSaid :=
  OpenClaim.holds_of_wide 3 Try.f3 rfl rfl rfl rfl rfl rfl rfl ⟨rfl, rfl, rfl, rfl, rfl⟩ rfl rfl rfl rfl rfl (by kernel_rfl) Try.func3 (by kernel_rfl)
    (of_decide_eq_true (by kernel_rfl)) (by unfold Func.isWrapper; first | (rw [if_pos (by decide +kernel)]; kernel_rfl) | (rw [if_neg (by decide +kernel)]; exact ⟨rfl, rfl⟩))
    (fun os started H enc _ => linkHeads_lifted os started H enc)
end Go.Proofs.Ytbcmoikpmmjlkaa
