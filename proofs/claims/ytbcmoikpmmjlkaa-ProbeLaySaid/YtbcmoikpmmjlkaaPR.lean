/- Law 25: writes and bytes that come in, opened. -/
import Derived.Test.YtbcmoikpmmjlkaaPC
import Derived.Test.YtbcmoikpmmjlkaaO
namespace Go.Proofs.Ytbcmoikpmmjlkaa
open Go Eng Go.ChangeShapes Go.WideShapes Go.ChangeAt Go.RowKit
set_option maxRecDepth 100000
theorem cellsOf5 : Try.prog.cellsOf 5 = 1 := by kernel_rfl
theorem cellsOf4 : Try.prog.cellsOf 4 = 1 := by kernel_rfl
theorem cellsOf62 : Try.prog.cellsOf 62 = 1 := by kernel_rfl
theorem cellsOf146 : Try.prog.cellsOf 146 = 4 := by kernel_rfl
theorem byte_of {H : Type} {enc : TypeId × Value → H} {W : World} (n : Nat) (cs : List Value) (y : DataW H × List MemPlace) (h : DataW.trod enc Try.prog W 0 (fun _ => true) true n 5 cs = some y) (_hl : cs.length = 1) : ∃ a : Int, cs = encBt a ∧ (0 ≤ a ∧ a ≤ 255) := by
  obtain ⟨a0, h0, _, w0⟩ := DataW.trod_int Try.underlying5 h
  subst h0
  have r0 : 0 ≤ a0 ∧ a0 ≤ 255 := by simpa [Lit.wf, IntKind.min, IntKind.max, IntKind.signed, IntKind.bits] using w0
  exact ⟨a0, rfl, r0⟩
theorem write_of {H : Type} {enc : TypeId × Value → H} {W : World} (n : Nat) (cs : List Value) (y : DataW H × List MemPlace) (h : DataW.trod enc Try.prog W 0 (fun _ => true) true n 146 cs = some y) (hl : cs.length = 4) : ∃ a : Wr, cs = encWr a ∧ a.ok := by
  obtain ⟨xs, m, _, _, _, hxl, hf⟩ := DataW.trod_struct Try.underlying146 h
  match cs, hl with
  | [u, v, b, c], _ =>
    have e0 := hf 0 _ rfl
    have e1 := hf 1 _ rfl
    have e2 := hf 2 _ rfl
    have e3 := hf 3 _ rfl
    simp [cellsOf5, cellsOf4, cellsOf62] at e0 e1 e2 e3
    have hx4 : xs.length = 4 := hxl
    rw [List.getElem?_eq_getElem (by omega)] at e0 e1 e2 e3
    obtain ⟨a0, h0, _, w0⟩ := DataW.trod_int Try.underlying5 e0
    obtain ⟨a1, h1, _⟩ := DataW.trod_bool Try.underlying4 e1
    obtain ⟨a2, h2, _, w2⟩ := DataW.trod_int Try.underlying62 e2
    obtain ⟨a3, h3, _, w3⟩ := DataW.trod_int Try.underlying5 e3
    injection h0 with h0 _
    injection h1 with h1 _
    injection h2 with h2 _
    injection h3 with h3 _
    subst h0; subst h1; subst h2; subst h3
    have r0 : 0 ≤ a0 ∧ a0 ≤ 255 := by simpa [Lit.wf, IntKind.min, IntKind.max, IntKind.signed, IntKind.bits] using w0
    have r2 : 0 ≤ a2 ∧ a2 ≤ 65535 := by simpa [Lit.wf, IntKind.min, IntKind.max, IntKind.signed, IntKind.bits] using w2
    have r3 : 0 ≤ a3 ∧ a3 ≤ 255 := by simpa [Lit.wf, IntKind.min, IntKind.max, IntKind.signed, IntKind.bits] using w3
    exact ⟨⟨a0, a1, a2, a3⟩, rfl, r0, r2, r3⟩
end Go.Proofs.Ytbcmoikpmmjlkaa
