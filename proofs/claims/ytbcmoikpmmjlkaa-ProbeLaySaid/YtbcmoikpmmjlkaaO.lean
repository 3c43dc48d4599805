/- Arguments opened: slices that read as lists. -/
import Derived.Test.YtbcmoikpmmjlkaaD
import Derived.Test.YtbcmoikpmmjlkaaQ
namespace Go.Proofs.Ytbcmoikpmmjlkaa
open Go Eng Go.ChangeShapes Go.WideShapes Go.ChangeAt Go.RowKit
set_option maxRecDepth 100000
theorem spot_of {w : World} {a : Addr} {u : Value} (h : w.cell? a = some u) : a = ⟨a.block, a.off, none⟩ := by
  obtain ⟨b, o, s⟩ := a
  cases s with
  | none => rfl
  | some s =>
    simp only [World.cell?] at h
    split at h
    · simp at h
    · cases h
theorem at_of_cells {w : World} {b off o n : Nat} {cs : List Value} (h : w.cells? 0 ((⟨b, off, none⟩ : Addr).add o) n = some cs) (hn : 0 < n) : At w b (off + o) cs := by
  obtain ⟨_, hl, hc⟩ := World.cells?_some h
  rw [addr_add] at hc
  have h0 := hc 0 hn
  rw [List.getElem?_eq_getElem (by omega), addr_add] at h0
  have hb : ∃ c E fr, w.heap[b]? = some (.cells c E fr) := by
    simp only [World.cell?] at h0
    split at h0
    · rename_i c E fr he
      exact ⟨c, E, fr, he⟩
    · cases h0
  obtain ⟨c, E, fr, hb⟩ := hb
  refine ⟨c, E, fr, hb, fun j y hy => ?_⟩
  have hj := (List.getElem?_eq_some_iff.1 hy).1
  have := hc j (by omega)
  rw [hy, addr_add] at this
  simpa [World.cell?, hb] using this
theorem rd_of {H : Type} {enc : TypeId × Value → H} {α : Type} [Inhabited α] {enc' : α → List Value} {P : α → Prop} {W : World} {T E k fuel : Nat} {v : Value} {x : DataW H × List MemPlace}
    (hT : Try.prog.underlying T = some (.slice E)) (hk : Try.prog.cellsOf E = k) (hk0 : 0 < k) (hv : ∃ a n c, v = .slice a n c) (h : DataW.trod enc Try.prog W 0 (fun _ => true) true fuel T [v] = some x)
    (hd : ∀ n cs y, DataW.trod enc Try.prog W 0 (fun _ => true) true n E cs = some y → cs.length = k → ∃ a : α, cs = enc' a ∧ P a) : ∃ l : List α, Rd W k enc' v l ∧ (∀ a ∈ l, P a) ∧ l.length ≤ maxLen := by
  obtain ⟨a0, n0, c0, rfl⟩ := hv
  rcases Deep.open_slice hT h with ⟨hc, _⟩ | ⟨a, len, cap, m, n, D, Pl, hc, _, hl, hm, hmm, _, hx⟩
  · injection hc with hc _
    injection hc with h1 h2 h3
    subst h1; subst h2; subst h3
    exact ⟨[], ⟨none, 0, rfl, fun i x hx => by simp at hx⟩, fun a ha => by simp at ha, by simp⟩
  · injection hc with hc _
    injection hc with h1 h2 h3
    subst h1; subst h2; subst h3
    rw [hk] at hx
    have hmm' : m = c0 := hmm
    have one : ∀ i, i < n0 → ∃ z : α, P z ∧ ∃ b off, some a = some (⟨b, off, none⟩ : Addr) ∧ At W b (off + i * k) (enc' z) := by
      intro i hi
      obtain ⟨cs0, hc0, _⟩ := hx 0 (by omega)
      obtain ⟨_, hl0, hs0⟩ := World.cells?_some hc0
      have h0 := hs0 0 hk0
      rw [List.getElem?_eq_getElem (by omega)] at h0
      have hsp : a = ⟨a.block, a.off, none⟩ := by
        have := spot_of h0
        simpa [Addr.add] using this
      obtain ⟨cs, hcs, ht⟩ := hx i (by omega)
      obtain ⟨_, hlc, _⟩ := World.cells?_some hcs
      obtain ⟨z, rfl, hz⟩ := hd _ _ _ ht hlc
      rw [hsp] at hcs
      exact ⟨z, hz, a.block, a.off, congrArg some hsp, at_of_cells hcs hk0⟩
    obtain ⟨f, hf⟩ := Deep.choose_lt one
    refine ⟨(List.range n0).map f, ⟨some a, c0, by simp, fun i x hx => ?_⟩, ?_, by simp; omega⟩
    · rw [List.getElem?_map] at hx
      obtain ⟨j, hj, rfl⟩ := Option.map_eq_some_iff.1 hx
      obtain ⟨hj1, rfl⟩ := List.getElem?_eq_some_iff.1 hj
      simp at hj1
      simp
      obtain ⟨_, b, off, e1, e2⟩ := hf i hj1
      exact ⟨b, off, by injection e1, e2⟩
    · intro z hz
      obtain ⟨i, hi, rfl⟩ := List.mem_map.1 hz
      exact (hf i (List.mem_range.1 hi)).1
end Go.Proofs.Ytbcmoikpmmjlkaa
