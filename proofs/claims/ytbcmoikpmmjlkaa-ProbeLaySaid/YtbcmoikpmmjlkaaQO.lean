/- Law 14: Slots, Len. -/
import Derived.Test.YtbcmoikpmmjlkaaQN
namespace Go.Proofs.Ytbcmoikpmmjlkaa
open Go Eng
set_option maxRecDepth 100000
theorem row93 : RowT 93 96 4 48 := ⟨Try.underlying93, by kernel_rfl⟩
structure Sm (x y : Pm) : Prop where
  used : x.used = y.used
  key : x.key = y.key
  n : x.n = y.n
  far : x.far = y.far
/-- slices.Clone of slots. -/
theorem s68 {w : World} {B r g seed many : Nat} {L : List Pm} (h : TbM w B r g seed L many) (hn : 0 < L.length) (hl : L.length ≤ 1000000) {R : Value → World → Prop}
    (hR : ∀ w' q cap rest, Bel w w' → w.heap.size ≤ q → hp w' q = some (.cells (L.flatMap encPm ++ rest).toArray 96) → R (.slice (some ⟨q, 0, none⟩) L.length cap) w') : F68 (.slice (some ⟨g, 0, none⟩) L.length L.length) w R := by
  unfold F68
  simp
  have hx := bx' w [.cells #[] 96]
  have g0 := hp_new w (.cells #[] 96)
  have h2 := h.bel hx
  generalize ext w [.cells #[] 96] = w1 at hx g0 h2 ⊢
  have ho : Own w1 w.heap.size 96 4 encPm (.slice (some ⟨w.heap.size, 0, none⟩) 0 0) [] := ⟨rfl, .inr ⟨w.heap.size, 0, #[], rfl, Nat.le_refl _, g0, Nat.le_refl _, by simp, rfl, rfl⟩⟩
  refine appA row93 encPm_ok ho (xs := L) (fun j u hj => ?_) (by simp; omega) (by simp only [maxLen]; simp; omega) hx.size fun v' w2 ho2 hg hv => ?_
  · exact cell_of_at (At.of (cs := (L.flatMap encPm).toArray) h2.row) hj
  · rw [List.nil_append] at ho2
    obtain ⟨_, ⟨_, e⟩ | ⟨q, cap, cur, rfl, e2, e3, e4, e5, e6, e7⟩⟩ := ho2
    · omega
    · refine hR w2 q cap (cur.toList.drop (L.length * 4)) (grown_bel hg hx fun g hg => Nat.le_of_eq (Option.some.inj hg)) e2 ?_
      rw [← e7, List.take_append_drop]
      exact e3
set_option maxHeartbeats 1000000 in
/-- probe.Slots. -/
theorem s30 {w : World} {B r seed : Nat} {L : List Pm} (h : Tab w B r seed L) {R : Value → World → Prop}
    (hR : ∀ w' v' M, Bel w w' → Rd w' 4 encPm v' M → M.length = L.length → (∀ (i : Nat) x y, M[i]? = some x → L[i]? = some y → Sm x y) → (∀ x ∈ M, Kb w' x.kv x.key) → R v' w') :
    F30 (.pointer (some ⟨r, 0, none⟩)) w R := by
  obtain ⟨g, e, h1, ht, hl, hft, he⟩ := h.out
  have hn8 : 8 ≤ L.length := by rw [hl]; exact ft_eight hft
  have hp2 : 2 ^ e ≤ 2 ^ 12 := Nat.pow_le_pow_right (by decide) he
  unfold F30
  refine c62 (s62 h1 ?_)
  simp [h1.cell]
  refine c68 (s68 h1 (by omega) (by omega) fun w1 q cap rest b1 hq c1 => ?_)
  simp
  have hkb : ∀ x ∈ L, Kb w x.kv x.key := fun x hx => (h1.keys.kb hx).1
  have hk64 : ∀ x ∈ L, x.key.length ≤ 64 := fun x hx => by
    cases hu : x.used with
    | true => exact (h1.keys.used x hx hu).len.2
    | false => rw [h1.keys.zero x hx hu]; exact Nat.zero_le _
  refine ⟨fun s z => ∃ (i : Nat) (M : List Pm), s = [.int .i64 (i : Nat)] ∧ i ≤ L.length ∧ M.length = L.length ∧ Bel w z ∧ hp z q = some (.cells (M.flatMap encPm ++ rest).toArray 96) ∧ (∀ (j : Nat) x y, M[j]? = some x → L[j]? = some y → Sm x y) ∧ (∀ j, i ≤ j → M[j]? = L[j]?) ∧ (∀ (j : Nat) x, j < i → M[j]? = some x → Kc z w.heap.size x.kv x.key),
    fun s _ => (L.length + 1 - n0 s 0).toNat, ⟨0, L, rfl, by omega, rfl, b1, c1, fun j x y hx hy => by rw [hx] at hy; injection hy with hy; subst hy; exact ⟨rfl, rfl, rfl, rfl⟩, fun j _ => rfl, fun j x hj => by omega⟩, ?_⟩
  rintro s z ⟨i, M, rfl, hi, hM, hz, cq, hsm, hrest, hdone⟩
  have hrd : Rd z 4 encPm (.slice (some ⟨q, 0, none⟩) L.length cap) M := by
    rw [← hM]
    refine ⟨_, _, rfl, fun j x hx => ⟨q, 0, rfl, _, _, _, cq, fun a y hy => ?_⟩⟩
    have h2 := flatMap_at encPm_ok hx hy
    have hlt := (List.getElem?_eq_some_iff.1 h2).1
    rw [Nat.zero_add, List.getElem?_toArray, List.getElem?_append_left hlt]
    exact h2
  simp
  refine ifD (fun h3 => ?_) (fun h3 => ?_)
  · have h3' : i < M.length := by omega
    obtain ⟨b, o, c2, ⟨off, ho, hsl⟩, hat⟩ := hrd.at (List.getElem?_eq_getElem h3')
    injection hsl with hsl _ _
    injection hsl with hsl
    injection hsl with e1 e2
    subst e1; subst e2
    have hMi : M[i] = L[i] := by
      have := hrest i (Nat.le_refl _)
      rw [List.getElem?_eq_getElem h3', List.getElem?_eq_getElem h3] at this
      injection this
    have hkx := hkb _ (List.getElem_mem h3)
    have hk6 := hk64 _ (List.getElem_mem h3)
    rw [← hMi] at hkx hk6
    refine (idxR (T := 93) (k := 4) (by kernel_rfl) h3).2 ?_
    rw [← ho]
    have hc1 := hat.cell 1 (by simp [encPm])
    simp [hc1, encPm]
    refine c37 (s37 (v := (M[i]).kv) (hkx.bel hz) (by omega) fun z1 v1 bz1 hk1 => ?_)
    obtain ⟨va, vc, rfl⟩ := hk1.form
    have cq1 := bg bz1 cq
    have e6 : IntKind.i64.wrap ((i : Int) + 1) = ((i + 1 : Nat) : Int) := i64_succ (by omega)
    refine (idxR (T := 93) (k := 4) (by kernel_rfl) h3).2 ?_
    have f1 : M = M.take i ++ M[i] :: M.drop (i + 1) := by rw [← List.drop_eq_getElem_cons h3', List.take_append_drop]
    have f2 : M.set i { M[i] with ka := va, kc := vc } = M.take i ++ { M[i] with ka := va, kc := vc } :: M.drop (i + 1) := by
      rw [List.set_eq_take_append_cons_drop, if_pos h3']
    have hA : ((M.take i).flatMap encPm).length = i * 4 := by rw [flat_len, List.length_take, Nat.min_eq_left (by omega)]
    have cq2 : hp z1 q = some (.cells ((M.take i).flatMap encPm ++ (encPm M[i] ++ ((M.drop (i + 1)).flatMap encPm ++ rest))).toArray 96) := by
      rw [cq1]
      conv => lhs; rw [f1, List.flatMap_append, List.flatMap_cons]
      simp
    have hfin : (.cells ((M.take i).flatMap encPm ++ (encPm M[i] ++ ((M.drop (i + 1)).flatMap encPm ++ rest)).set 1 (.slice va M[i].key.length vc)).toArray 96 : Obj) = .cells ((M.set i { M[i] with ka := va, kc := vc }).flatMap encPm ++ rest).toArray 96 := by
      rw [f2, List.flatMap_append, List.flatMap_cons]
      simp [encPm]
    simp only [fld_96_1]
    refine stC (A := (M.take i).flatMap encPm) (c := encPm M[i] ++ ((M.drop (i + 1)).flatMap encPm ++ rest)) (j := 1) cq2 (by rw [hA]; omega) (by simp [encPm]) size_36 rfl rfl ?_
    rw [hfin, e6]
    have hz1 := bt hz bz1
    have hset : ∀ j, (M.set i { M[i] with ka := va, kc := vc })[j]? = if i = j then some { M[i] with ka := va, kc := vc } else M[j]? := fun j => by
      rw [List.getElem?_set]
      split
      · rename_i hij; subst hij; rfl
      · rfl
    refine ⟨⟨i + 1, rfl, h3, M.set i { M[i] with ka := va, kc := vc }, by rw [List.length_set]; exact hM, bu hz1 hq _, by rw [upd_same, cq1]; rfl, fun j x y hx hy => ?_, fun j hj => ?_, fun j x hj hx => ?_⟩, by simp [n0]; omega⟩
    · rw [hset] at hx
      split at hx
      · rename_i hij
        subst hij
        injection hx with hx
        subst hx
        have := hsm i _ y (List.getElem?_eq_getElem h3') hy
        exact ⟨this.used, this.key, this.n, this.far⟩
      · exact hsm j x y hx hy
    · rw [hset, if_neg (by omega)]; exact hrest j (by omega)
    · rw [hset] at hx
      have keep : ∀ {v : Value} {k : List Nat} {B : Nat}, Kc z1 B v k → Kc (upd z1 q (.cells ((M.set i { M[i] with ka := va, kc := vc }).flatMap encPm ++ rest).toArray 96)) B v k := fun hk => hk.keep fun b o hb hE _ => by
        rw [upd_ne _ _ _ _ (by rintro rfl; rw [cq1] at hb; injection hb with hb; have := hE _ _ _ hb.symm; cases this)]
        exact hb
      split at hx
      · rename_i hij
        subst hij
        injection hx with hx
        subst hx
        exact (keep hk1).weaken hz.size
      · exact keep ((hdone j x (by omega) hx).bel bz1)
  · obtain rfl : i = L.length := by omega
    refine hR z _ M hz hrd hM hsm fun x hx => ?_
    obtain ⟨j, hj, rfl⟩ := List.mem_iff_getElem.1 hx
    exact (hdone j _ (by omega) (List.getElem?_eq_getElem hj)).kb
/-- probe.Len. -/
theorem s31 {w : World} {B r seed : Nat} {L : List Pm} (h : Tab w B r seed L) {R : Value → World → Prop} (hR : R (.int .i64 ((ks L).length : Nat)) w) : F31 (.pointer (some ⟨r, 0, none⟩)) w R := by
  obtain ⟨g, e, h1, _⟩ := h.out
  unfold F31
  refine c62 (s62 h1 ?_)
  simp [h1.cell]
  exact hR
end Go.Proofs.Ytbcmoikpmmjlkaa
