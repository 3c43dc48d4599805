/- Law 14: new rows of slots; the slots that are used, as an iterator. -/
import Derived.Test.YtbcmoikpmmjlkaaQI
namespace Go.Proofs.Ytbcmoikpmmjlkaa
open Go Eng
set_option maxRecDepth 100000
theorem flat_len (l : List Pm) : (l.flatMap encPm).length = l.length * 4 := by
  induction l with
  | nil => rfl
  | cons y l ih => rw [List.flatMap_cons, List.length_append, ih, List.length_cons, Nat.add_mul]; simp [encPm]; omega
theorem made_slots (k : Nat) : madeCells #[.bool false, .slice none 0 0, .int .u64 0, .int .i64 0] (k * 4) = ((List.replicate k zPm).flatMap encPm).toArray := by
  apply Array.ext'
  apply List.ext_getElem?
  intro i
  rw [show ((List.replicate k zPm).flatMap encPm).toArray.toList = (List.replicate k zPm).flatMap encPm from rfl]
  by_cases hi : i < k * 4
  · obtain ⟨a, j, hj, rfl⟩ : ∃ a j, j < 4 ∧ i = a * 4 + j := ⟨i / 4, i % 4, Nat.mod_lt _ (by decide), by omega⟩
    have hz : (List.replicate k zPm)[a]? = some zPm := by rw [List.getElem?_replicate, if_pos (by omega)]
    have hmod : (a * 4 + j) % 4 = j := by omega
    have hl : ∀ y, (madeCells #[.bool false, .slice none 0 0, .int .u64 0, .int .i64 0] (k * 4)).toList[a * 4 + j]? = some y ↔ #[Value.bool false, .slice none 0 0, .int .u64 0, .int .i64 0][j]! = y := fun y => by
      unfold madeCells
      rw [Array.getElem?_toList, Array.getElem?_map, Array.getElem?_range]
      simp only [hi, if_true, Option.map_some]
      show some (#[Value.bool false, .slice none 0 0, .int .u64 0, .int .i64 0][(a * 4 + j) % 4]!) = some y ↔ _
      rw [hmod]
      simp
    have hj' : j = 0 ∨ j = 1 ∨ j = 2 ∨ j = 3 := by omega
    rcases hj' with rfl | rfl | rfl | rfl
    · rw [flatMap_at encPm_ok hz (j := 0) (y := .bool false) rfl]; exact (hl _).2 rfl
    · rw [flatMap_at encPm_ok hz (j := 1) (y := .slice none 0 0) rfl]; exact (hl _).2 rfl
    · rw [flatMap_at encPm_ok hz (j := 2) (y := .int .u64 0) rfl]; exact (hl _).2 rfl
    · rw [flatMap_at encPm_ok hz (j := 3) (y := .int .i64 0) rfl]; exact (hl _).2 rfl
  · rw [List.getElem?_eq_none, List.getElem?_eq_none]
    · rw [flat_len, List.length_replicate]; omega
    · simp [madeCells]; omega
theorem mkSlots {w : World} {k : Nat} (hk : k ≤ 1000000) {K : Value → World → Prop} (hK : K (.slice (some ⟨w.heap.size, 0, none⟩) k k) (ext w [.cells ((List.replicate k zPm).flatMap encPm).toArray 96])) :
    S Pg (Instr.makeSlice 93 (.int .i64 (k : Nat)) (.int .i64 (k : Nat))) w K := by
  have hinfo : (Pg.info? 96).map (fun i => (i.size, i.bytes, i.zero)) = some (4, 48, some (.agg #[.bool false, .slice none 0 0, .int .u64 0, .int .i64 0])) := by kernel_rfl
  obtain ⟨i, hi, he⟩ := Option.map_eq_some_iff.1 hinfo
  injection he with e1 he
  injection he with e2 e3
  have := run_makeSlice (P := Pg) w 93 96 i (.agg #[.bool false, .slice none 0 0, .int .u64 0, .int .i64 0]) Try.underlying93 hi e3 .i64 .i64 (k : Nat) (k : Nat) (by omega) (by omega) (by rw [e1]; omega) (by rw [e2]; omega) (by omega)
  refine (S_of this).2 ?_
  rw [e1, Int.toNat_natCast]
  have hc : madeCells (Value.agg #[.bool false, .slice none 0 0, .int .u64 0, .int .i64 0]).cells (k * 4) = ((List.replicate k zPm).flatMap encPm).toArray := made_slots k
  rw [hc, ← ext_one]
  exact hK
theorem tb_empty (h : List Nat → Nat) (k : Nat) : Tb h k (List.replicate k zPm) := by
  have hu : ∀ p, (sl (List.replicate k zPm) p).used = false := fun p => by
    unfold sl
    rw [List.getD_eq_getElem?_getD, List.getElem?_replicate]
    split <;> rfl
  exact ⟨by simp, fun p hp => (by rw [hu] at hp; cases hp), fun p hp => (by rw [hu] at hp; cases hp)⟩
theorem ks_empty (k : Nat) : ks (List.replicate k zPm) = [] := by
  unfold ks
  rw [List.filter_eq_nil_iff.2 (fun x hx => by rw [(List.mem_replicate.1 hx).2]; simp [zPm])]
  rfl
theorem keys_empty (w : World) (B k : Nat) : Keys w B (List.replicate k zPm) := ⟨fun x hx hu => (by rw [(List.mem_replicate.1 hx).2] at hu; cases hu), fun x hx _ => (List.mem_replicate.1 hx).2⟩
/-- probe.New. -/
theorem s27 {w : World} {B seed : Nat} (hB : B ≤ w.heap.size) {R : Value → World → Prop}
    (hR : ∀ w' r g, Bel w w' → TbM w' B r g seed (List.replicate 8 zPm) 0 → R (.pointer (some ⟨r, 0, none⟩)) w') : F27 (.int .u64 (seed : Nat)) w R := by
  unfold F27
  refine mkSlots (k := 8) (by decide) ?_
  have hx := bx' w [.cells ((List.replicate 8 zPm).flatMap encPm).toArray 96]
  have g0 := hp_new w (.cells ((List.replicate 8 zPm).flatMap encPm).toArray 96)
  generalize ext w [.cells ((List.replicate 8 zPm).flatMap encPm).toArray 96] = w1 at hx g0 ⊢
  refine (build_153_0_1 _ _ _ _ _).2 ?_
  refine (newP_some _ _ _ _).2 ?_
  have hx1 := bx' w1 [.cells (Value.agg #[.int .u64 (seed : Nat), .slice (some ⟨w.heap.size, 0, none⟩) 8 8, .int .i64 0]).cells 153]
  have g1 := hp_new w1 (.cells (Value.agg #[.int .u64 (seed : Nat), .slice (some ⟨w.heap.size, 0, none⟩) 8 8, .int .i64 0]).cells 153)
  have g0 := bg hx1 g0
  have := hx.size
  exact hR _ _ _ (bt hx hx1) ⟨g1, g0, keys_empty _ _ _, by omega, hB⟩
/-- The used ones, as they lie. -/
def usedOf (L : List Pm) : List (List Value) := (L.filter (·.used)).map fun x => [x.kv, .int .u64 x.n]
theorem usedOf_snoc (L : List Pm) (x : Pm) : usedOf (L ++ [x]) = if x.used then usedOf L ++ [[x.kv, .int .u64 x.n]] else usedOf L := by
  unfold usedOf
  rw [List.filter_append]
  by_cases h : x.used = true <;> simp [h]
theorem it86 {tb g : Nat} {L : List Pm} (hl : L.length ≤ 1000000) :
    IterC Pg 86 #[.pointer (some ⟨tb, 0, none⟩)] (fun w => hp w tb = some (.cells #[.slice (some ⟨g, 0, none⟩) L.length L.length] 93) ∧ hp w g = some (.cells (L.flatMap encPm).toArray 96)) (usedOf L) := by
  intro lp J W hM hS hY h0
  show Calls Pg 86 #[.func (.yield lp) #[] #[], .pointer (some ⟨tb, 0, none⟩)] W _
  refine f86 ?_
  unfold F86
  obtain ⟨m1, m2⟩ := hM 0 W h0
  simp [m1, -newP_some, -storeW_ptr, -zero_96]
  refine ⟨fun s w => ∃ i : Nat, s = [.int .i64 (i : Nat)] ∧ i ≤ L.length ∧ J (usedOf (L.take i)).length w ∧ W.heap.size ≤ w.heap.size, fun s _ => ((L.length + 1 : Nat) - n0 s 0).toNat, ⟨0, rfl, by omega, h0, Nat.le_refl _⟩, ?_⟩
  rintro s w ⟨i, rfl, hi, hJ, hsz⟩
  obtain ⟨m1, m2⟩ := hM _ w hJ
  simp [-newP_some, -storeW_ptr, -zero_96]
  refine ifD (fun h1 => ?_) (fun h1 => ?_)
  · obtain ⟨b, o, c2, ⟨off, ho, hsl⟩, hat⟩ := (rd_lit (n := L.length) (c := L.length) encPm_ok m2 (by simp) rfl).at (List.getElem?_eq_getElem h1)
    injection hsl with hsl _ _
    injection hsl with hsl
    injection hsl with e1 e2
    subst e1; subst e2
    have htk : L.take (i + 1) = L.take i ++ [L[i]] := by rw [List.take_succ_eq_append_getElem h1]
    have hpre : ∃ r, usedOf L = usedOf (L.take (i + 1)) ++ r := ⟨usedOf (L.drop (i + 1)), by
      unfold usedOf
      rw [← List.map_append, ← List.filter_append, List.take_append_drop]⟩
    rw [htk, usedOf_snoc] at hpre
    have hlen : (usedOf (L.take (i + 1))).length = if L[i].used then (usedOf (L.take i)).length + 1 else (usedOf (L.take i)).length := by
      rw [htk, usedOf_snoc]; split <;> simp
    refine (idxR (T := 93) (k := 4) (by kernel_rfl) h1).2 ?_
    rw [← ho]
    generalize L[i] = x at hat hpre hlen
    have hload := hat.cells0 4 (by decide) (by simp [encPm])
    refine ⟨.agg (encPm x).toArray, by simp only [loadW_ptr, shape_96, ldSh_agg, hload]; rfl, ?_⟩
    refine newL zero_96 fun q w2 b2 hq _ c2 => ?_
    refine st96 c2 ?_
    have c2 : hp (upd w2 q (.cells (encPm x).toArray 96)) q = some (.cells (encPm x).toArray 96) := by simp [c2]
    have b2 : Bel w (upd w2 q (.cells (encPm x).toArray 96)) := bu b2 hq _
    generalize upd w2 q (.cells (encPm x).toArray 96) = w3 at c2 b2 ⊢
    have e6 : IntKind.i64.wrap ((i : Int) + 1) = ((i + 1 : Nat) : Int) := wrap_i64 (by omega) (by omega)
    have hJ1 := hS _ _ _ hJ (b2.mono hsz)
    have hsz1 := b2.size
    simp [c2, encPm, -newP_some, -storeW_ptr, -zero_96]
    refine ifB (fun h2 => ?_) (fun h2 => ?_)
    · rw [if_pos h2] at hpre hlen
      obtain ⟨r, hr⟩ := hpre
      have hx : (usedOf L)[(usedOf (L.take i)).length]? = some [x.kv, .int .u64 x.n] := by
        rw [hr]; simp
      rw [e6]
      have hy := hY _ _ w3 hx hJ1 (by omega)
      refine (yield_of (YieldC.mono hy ?_) : callV Pg true (.func (.yield lp) #[] #[]) [x.kv, .int .u64 x.n].toArray w3 _)
      rintro v w4 ⟨rfl, h3, h4⟩
      simp
      refine ⟨⟨i + 1, by omega, by omega, by rw [hlen]; exact h3, by have := h4.1; omega⟩, ?_⟩
      simp [n0]
      omega
    · rw [h2] at hlen
      rw [e6]
      refine ⟨⟨i + 1, rfl, by omega, by rw [hlen]; exact hJ1, by omega⟩, ?_⟩
      simp [n0]
      omega
  · have : i = L.length := by omega
    rw [this, List.take_length] at hJ
    simpa using hJ
end Go.Proofs.Ytbcmoikpmmjlkaa
