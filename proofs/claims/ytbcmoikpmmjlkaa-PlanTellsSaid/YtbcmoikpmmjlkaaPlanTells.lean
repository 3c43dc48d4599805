/- The row of PlanTells: proved as it was given. -/
import Derived.Test.YtbcmoikpmmjlkaaPK
import Derived.Test.YtbcmoikpmmjlkaaPR
import Derived.Lib.SmallJoins
namespace Go.Proofs.Ytbcmoikpmmjlkaa
open Go Eng Go.ChangeShapes Go.WideShapes Go.ChangeAt Go.RowKit
set_option maxRecDepth 100000
instance : Inhabited Im := ⟨⟨none, 0, ⟨[], 0, 0, 0⟩⟩⟩
theorem cellsOf36 : Try.prog.cellsOf 36 = 1 := by kernel_rfl
theorem cellsOf35 : Try.prog.cellsOf 35 = 1 := by kernel_rfl
theorem cellsOf3 : Try.prog.cellsOf 3 = 1 := by kernel_rfl
theorem cellsOf79 : Try.prog.cellsOf 79 = 4 := by kernel_rfl
theorem cellsOf103 : Try.prog.cellsOf 103 = 3 := by kernel_rfl
/-- A slice of bytes that came in. -/
theorem bytes_of {H : Type} {enc : TypeId × Value → H} {W : World} {n : Nat} {v : Value} {y : DataW H × List MemPlace} (h : DataW.trod enc Try.prog W 0 (fun _ => true) true n 36 [v] = some y) :
    ∃ (a : Option Addr) (c : Nat) (k : List Nat), v = .slice a k.length c ∧ k.length ≤ c ∧ (k ≠ [] → Bs W v k) ∧ ∀ x ∈ k, x < 256 := by
  have hv : ∃ a n c, v = .slice a n c ∧ n ≤ c := by
    rcases Deep.open_slice Try.underlying36 h with ⟨hc, _⟩ | ⟨a, len, cap, m, n, D, Pl, hc, _, hl, _⟩
    · injection hc with hc _; exact ⟨none, 0, 0, hc, Nat.le_refl _⟩
    · injection hc with hc _; exact ⟨some a, len, cap, hc, hl⟩
  obtain ⟨a, n0, c, rfl, hle⟩ := hv
  obtain ⟨l, ⟨a1, c1, e, hat⟩, hP, _⟩ := rd_of (enc' := encBt) (P := fun a => 0 ≤ a ∧ a ≤ 255) Try.underlying36 cellsOf5 (by decide) ⟨_, _, _, rfl⟩ h (fun n cs y => byte_of n cs y)
  injection e with e1 e2 e3
  subst e1; subst e2; subst e3
  refine ⟨a, c, l.map Int.toNat, by simp, by simpa using hle, fun hn => ?_, fun x hx => ?_⟩
  · have h0 : 0 < l.length := by
      cases l with
      | nil => exact absurd rfl hn
      | cons x l => simp
    obtain ⟨b, off, rfl, cs, E, fr, hb, _⟩ := hat 0 _ (List.getElem?_eq_getElem h0)
    refine ⟨b, off, c, by simp, by simpa using hle, cs, E, fr, hb, fun j u hu => ?_⟩
    unfold byC at hu
    rw [List.getElem?_map, List.getElem?_map, Option.map_map] at hu
    obtain ⟨x, hx, rfl⟩ := Option.map_eq_some_iff.1 hu
    obtain ⟨b', off', e, cs', E', fr', hb', h2⟩ := hat j x hx
    injection e with e
    injection e with e4 e5
    subst e4; subst e5
    rw [hb] at hb'
    injection hb' with hb'
    injection hb' with hb' _ _
    subst hb'
    have := h2 0 (.int .u8 x) rfl
    rw [Nat.mul_one, Nat.add_zero] at this
    rw [this]
    have := (hP x (List.mem_of_getElem? hx)).1
    simp only [Function.comp]
    rw [Int.toNat_of_nonneg this]
  · obtain ⟨y, hy, rfl⟩ := List.mem_map.1 hx
    have := hP y hy
    omega
def ImOk (W : World) (x : Im) : Prop := x.it.key.length ≤ x.kc ∧ (x.it.key ≠ [] → Bs W x.kv x.it.key) ∧ ∀ c ∈ x.it.key, c < 256
/-- An item that came in. -/
theorem item_of {H : Type} {enc : TypeId × Value → H} {W : World} (n : Nat) (cs : List Value) (y : DataW H × List MemPlace) (h : DataW.trod enc Try.prog W 0 (fun _ => true) true n 79 cs = some y) (hl : cs.length = 4) : ∃ a : Im, cs = encIm a ∧ ImOk W a := by
  obtain ⟨xs, m, _, _, _, hxl, hf⟩ := DataW.trod_struct Try.underlying79 h
  match cs, hl with
  | [u, v, b, c], _ =>
    have e0 := hf 0 _ rfl
    have e1 := hf 1 _ rfl
    have e2 := hf 2 _ rfl
    have e3 := hf 3 _ rfl
    simp [cellsOf36, cellsOf35, cellsOf3] at e0 e1 e2 e3
    have hx4 : xs.length = 4 := hxl
    rw [List.getElem?_eq_getElem (by omega)] at e0 e1 e2 e3
    obtain ⟨ka, kc, k, rfl, k1, k2, k3⟩ := bytes_of e0
    obtain ⟨a1, h1, _⟩ := DataW.trod_int Try.underlying35 e1
    obtain ⟨a2, h2, _⟩ := DataW.trod_int Try.underlying3 e2
    obtain ⟨a3, h3, _⟩ := DataW.trod_int Try.underlying3 e3
    injection h1 with h1 _
    injection h2 with h2 _
    injection h3 with h3 _
    subst h1; subst h2; subst h3
    exact ⟨⟨ka, kc, ⟨k, a1, a2, a3⟩⟩, rfl, k1, k2, k3⟩
theorem word_of {H : Type} {enc : TypeId × Value → H} {W : World} (n : Nat) (cs : List Value) (y : DataW H × List MemPlace) (h : DataW.trod enc Try.prog W 0 (fun _ => true) true n 35 cs = some y) (_hl : cs.length = 1) : ∃ a : Int, cs = encU a ∧ True := by
  obtain ⟨a0, h0, _⟩ := DataW.trod_int Try.underlying35 h
  subst h0
  exact ⟨a0, rfl, trivial⟩
theorem s9_contract (H : Type) (enc : TypeId × Value → H) (W : World) (base : Nat) (args : Array Value) (ds gs : List (DataW H)) (before : List MemPlace)
    (hval : ∀ (j : Nat) t v, Try.f9.params[j]? = some t → args[j]? = some v → Value.okWide Try.prog W .any base t v)
    (hW : DataW.Whole enc Try.prog Try.f9.params.toList Rows.planTellsSpec.vars false W args.toList ds gs before) :
    Calls Try.prog 9 args W fun e W' => ∃ v, e = .returned v ∧ Rows.planTellsSpec.post enc Try.prog Try.f9 false true false false W args v W' := by
  have hW' := hW
  obtain ⟨p, q, hA0, hV, rfl, hfz, hnd⟩ := hW
  have hA : DataW.TrodAll enc Try.prog W 0 (fun _ => true) true Try.f9.params.toList args.toList ds p := hA0
  rw [Try.params9] at hA hval
  obtain ⟨v0, v1, d0, d1, p0, p1, rfl, rfl, rfl, h0, h1⟩ := trodAll_two hA
  obtain ⟨rfl, rfl⟩ := trodVars_none hV
  obtain ⟨a0, len, cap, rfl⟩ := okWide_slice Try.underlying63 (hval 0 63 v0 rfl rfl)
  obtain ⟨av, lv, fv, y0, y1, y2, n, rfl, _, _, t0, t1, t2⟩ := Go.Joins.open_agg3 Try.underlying103 (by kernel_rfl) cellsOf103 (hval 1 103 v1 rfl rfl) h1
  obtain ⟨fuel, hf⟩ := h0
  obtain ⟨l, hrd, hok, _⟩ := rd_of (enc' := encIm) (P := ImOk W) Try.underlying63 cellsOf79 (by decide) ⟨_, _, _, rfl⟩ hf (fun n cs y => item_of n cs y)
  have hav : ∃ a n c, av = .slice a n c ∧ n ≤ c := by
    rcases Deep.open_slice Try.underlying66 t0 with ⟨hc, _⟩ | ⟨a, len, cap, m, n, D, Pl, hc, _, hl, _⟩
    · injection hc with hc _; exact ⟨none, 0, 0, hc, Nat.le_refl _⟩
    · injection hc with hc _; exact ⟨some a, len, cap, hc, hl⟩
  obtain ⟨a1, n1, c1, rfl, hle⟩ := hav
  obtain ⟨ats, hat, _, _⟩ := rd_of (enc' := encU) (P := fun _ => True) Try.underlying66 cellsOf35 (by decide) ⟨_, _, _, rfl⟩ t0 (fun n cs y => word_of n cs y)
  obtain ⟨limit, hl, _⟩ := DataW.trod_int Try.underlying3 t1
  obtain ⟨first, hf1, _⟩ := DataW.trod_int Try.underlying32 t2
  injection hl with hl _
  injection hf1 with hf1 _
  subst hl; subst hf1
  refine (f9 (R := fun v W' => v = .bool true ∧ Bel W W') (s9 (ims0 := l) ⟨hrd, fun x hx => (hok x hx).2.1, fun x hx => (hok x hx).2.2⟩ (fun x hx => (hok x hx).1) hat (fun a n c e => by injection e with _ e2 e3; omega) fun w' hb => ⟨rfl, hb⟩)).mono fun e W' he => ?_
  cases e with
  | returned v =>
    obtain ⟨hv, hb⟩ : v = .bool true ∧ Bel W W' := he
    subst hv
    exact ⟨_, rfl, post_true hW' rfl (by rw [Try.params9]; decide +kernel) (by kernel_rfl) rfl rfl rfl hb⟩
  | panicked _ => exact he.elim
  | outgrown => exact he.elim
theorem planTells_lifted (os : Os) (started : os.Started) (H : Type) (enc : TypeId × Value → H) :
    ReturnsInHanded {} Try.checked os 9 .any (Rows.planTellsSpec.pre6 enc Try.prog Try.f9 Rows.planTellsRow.domain false) (Rows.planTellsSpec.post enc Try.prog Try.f9 false true false false) := by
  refine returnsInHanded_of_change (C := Try.checked) own started (by kernel_rfl) Try.func9
    (ChangeSpec.witness6 (enc := enc) (C := Try.checked) false ⟨#[], #[.slice none 0 0, .agg #[.slice none 0 0, .int .i64 0, .int .u32 0]], []⟩ 8 (by kernel_rfl) (by kernel_rfl) (by kernel_rfl) (by kernel_rfl)) ?_
  intro W base args ds gs before hval hW _ _
  exact s9_contract H enc W base args ds gs before hval hW
theorem planTells : Rows.PlanTellsSaid :=
  OpenClaim.holds_of_wide 9 Try.f9 rfl rfl rfl rfl rfl rfl rfl ⟨rfl, rfl, rfl, rfl, rfl⟩ rfl rfl rfl rfl rfl (by kernel_rfl) Try.func9 (by kernel_rfl)
    (of_decide_eq_true (by kernel_rfl)) (by unfold Func.isWrapper; first | (rw [if_pos (by decide +kernel)]; kernel_rfl) | (rw [if_neg (by decide +kernel)]; exact ⟨rfl, rfl⟩))
    (fun os started H enc _ => planTells_lifted os started H enc)
#print axioms planTells
end Go.Proofs.Ytbcmoikpmmjlkaa
