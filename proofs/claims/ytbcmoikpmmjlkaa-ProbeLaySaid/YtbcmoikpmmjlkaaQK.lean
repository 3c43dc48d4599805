/- Law 14: fit. -/
import Derived.Test.YtbcmoikpmmjlkaaQJ
namespace Go.Proofs.Ytbcmoikpmmjlkaa
open Go Eng
set_option maxRecDepth 100000
/-- How many slots there should be: 2 ^ e. -/
def Ft (m e : Nat) : Prop := 3 ≤ e ∧ 4 * m ≤ 3 * 2 ^ e ∧ (3 < e → 3 * 2 ^ (e - 1) < 4 * m)
theorem usedOf_at {L : List Pm} {i : Nat} {x : List Value} (h : (usedOf L)[i]? = some x) : ∃ y, y ∈ L ∧ y.used = true ∧ x = [y.kv, .int .u64 y.n] ∧ (ks L)[i]? = some y.key := by
  unfold usedOf at h
  rw [List.getElem?_map] at h
  obtain ⟨y, hy, rfl⟩ := Option.map_eq_some_iff.1 h
  have hm := List.mem_filter.1 (List.mem_of_getElem? hy)
  exact ⟨y, hm.1, hm.2, rfl, by unfold ks; rw [List.getElem?_map, hy]; rfl⟩
theorem usedOf_length (L : List Pm) : (usedOf L).length = (ks L).length := by simp [usedOf, ks]
theorem TFr.keyE {r g : Nat} {w w' : World} {B : Nat} {x : Pm} (f : TFr r g w w') (hr : ∃ cs E fr, hp w r = some (.cells cs E fr) ∧ E ≠ 5) (hg : ∃ cs E fr, hp w g = some (.cells cs E fr) ∧ E ≠ 5) (k : KeyM w B x) : KeyM w' B x := by
  obtain ⟨_, _, _, r1, r2⟩ := hr
  obtain ⟨_, _, _, g1, g2⟩ := hg
  exact ⟨k.kc.keep fun b o hb hE _ => f.blk b o hb (by rintro rfl; rw [r1] at hb; injection hb with hb; exact r2 (hE _ _ _ hb.symm)) (by rintro rfl; rw [g1] at hb; injection hb with hb; exact g2 (hE _ _ _ hb.symm)), k.byte, k.len⟩
/-- A table under way while all is laid anew. -/
structure Jf (w0 : World) (B r g g' t2 t3 seed e : Nat) (L : List Pm) (i : Nat) (W : World) : Prop where
  size : w0.heap.size ≤ W.heap.size
  c2 : hp W t2 = some (.cells #[.pointer (some ⟨r, 0, none⟩)] 89)
  c3 : hp W t3 = some (.cells #[.slice (some ⟨g, 0, none⟩) L.length L.length] 93)
  old : hp W g = some (.cells (L.flatMap encPm).toArray 96)
  fr : TFr r g' w0 W
  new : ∃ M : List Pm, M.length = 2 ^ e ∧ hp W r = some (.cells #[.int .u64 (seed : Nat), .slice (some ⟨g', 0, none⟩) M.length M.length, .int .i64 (i : Nat)] 153) ∧ hp W g' = some (.cells (M.flatMap encPm).toArray 96) ∧ Keys w0 B M ∧ Tb (hm seed M.length) M.length M ∧ (ks M).Perm ((ks L).take i)
theorem Jf.below {w0 W W' : World} {B r g g' t2 t3 seed e i : Nat} {L : List Pm} (h : Jf w0 B r g g' t2 t3 seed e L i W) (hlt : r < w0.heap.size ∧ g < w0.heap.size ∧ g' < w0.heap.size ∧ t2 < w0.heap.size ∧ t3 < w0.heap.size) (hS : SameBelow w0.heap.size W W') : Jf w0 B r g g' t2 t3 seed e L i W' := by
  obtain ⟨l1, l2, l3, l4, l5⟩ := hlt
  have hb : ∀ b, b < w0.heap.size → hp W' b = hp W b := fun b hb => hS.block b hb
  obtain ⟨M, m1, m2, m3, m4, m5, m6⟩ := h.new
  refine ⟨Nat.le_trans h.size hS.size, by rw [hb _ l4]; exact h.c2, by rw [hb _ l5]; exact h.c3, by rw [hb _ l2]; exact h.old, ⟨fun v a b c => ?_, fun b o hb1 a1 a2 => ?_, Nat.le_trans h.size hS.size⟩, M, m1, by rw [hb _ l1]; exact m2, by rw [hb _ l3]; exact m3, m4, m5, m6⟩
  · have := h.fr.bel v a b c
    exact this.trans (hS.mono (by omega))
  · rw [hb _ (hp_lt hb1)]; exact h.fr.blk b o hb1 a1 a2
set_option maxHeartbeats 1000000 in
/-- probe.fit. -/
theorem s64 {w : World} {B r g seed many e m : Nat} {L : List Pm} (h : TbM w B r g seed L many) (t : Tb (hm seed L.length) L.length L) (hs : seed < 18446744073709551616) (hl : L.length = 2 ^ e) (he : e ≤ 12) (hcnt : (ks L).length = many) (hnd : (ks L).Nodup) (hmm : many ≤ m) (hm1 : m ≤ 1000) (hBw : B ≤ w.heap.size)
    {R : Value → World → Prop}
    (hR : ∀ w' g' e' L', TFr r r w w' → TbM w' B r g' seed L' many → Tb (hm seed L'.length) L'.length L' → L'.length = 2 ^ e' → Ft m e' → e' ≤ 12 → (ks L').Perm (ks L) → R (.tuple #[]) w') :
    F64 (.pointer (some ⟨r, 0, none⟩)) (.int .i64 (m : Nat)) w R := by
  unfold F64
  refine (newP_some _ _ _ _).2 ?_
  have hx0 := bx' w [.cells (Value.pointer (some ⟨r, 0, none⟩)).cells 89]
  have c2 := hp_new w (.cells (Value.pointer (some ⟨r, 0, none⟩)).cells 89)
  generalize ext w [.cells (Value.pointer (some ⟨r, 0, none⟩)).cells 89] = w1 at hx0 c2 ⊢
  have e0 : (Value.pointer (some ⟨r, 0, none⟩)).cells = #[Value.pointer (some ⟨r, 0, none⟩)] := rfl
  rw [e0] at c2
  generalize hq2 : w.heap.size = t2 at c2 ⊢
  have h1 := h.bel hx0
  have hrw := hp_lt h.cell
  have hgw := hp_lt h.row
  refine ⟨fun s u => ∃ e1 : Nat, s = [.int .i64 (2 ^ e1 : Nat)] ∧ 3 ≤ e1 ∧ e1 ≤ 11 ∧ (3 < e1 → 3 * 2 ^ (e1 - 1) < 4 * m) ∧ u = w1, fun s _ => (8192 - n0 s 0).toNat, ⟨3, rfl, by omega, by omega, fun h => by omega, rfl⟩, ?_⟩
  rintro s u ⟨e1, rfl, he3, he11, hft, rfl⟩
  have hpow : 2 ^ e1 ≤ 2 ^ 11 := Nat.pow_le_pow_right (by decide) he11
  have hpos : 0 < 2 ^ e1 := Nat.pow_pos (by decide)
  have w4 : IntKind.i64.wrap (4 * (m : Int)) = 4 * (m : Int) := wrap_i64 (by omega) (by omega)
  have w3 : IntKind.i64.wrap (3 * ((2 ^ e1 : Nat) : Int)) = 3 * ((2 ^ e1 : Nat) : Int) := wrap_i64 (by omega) (by omega)
  have w2 : IntKind.i64.wrap (((2 ^ e1 : Nat) : Int) * 2) = ((2 ^ (e1 + 1) : Nat) : Int) := by rw [wrap_i64 (by omega) (by omega), Nat.pow_succ]; omega
  simp only [nthV_zero, pure_mul, pure_gtr, w4, w3]
  refine ifD (fun h5 => ?_) (fun h5 => ?_)
  · simp only [w2]
    refine ⟨⟨e1 + 1, rfl, by omega, ?_, fun _ => by rw [Nat.add_sub_cancel]; omega, trivial⟩, ?_⟩
    · refine Classical.byContradiction fun hc => ?_
      obtain rfl : e1 = 11 := by omega
      omega
    · simp only [n0, nthV_zero]
      rw [Nat.pow_succ]; omega
  · have hFt : Ft m e1 := ⟨he3, by omega, hft⟩
    generalize hP : 2 ^ e1 = P at *
    simp [c2, h1.cell, -newP_some, -storeW_ptr, -zero_96, -zero_93]
    refine ifD (fun h6 => ?_) (fun h6 => ?_)
    · have h6 : L.length = P := by omega
      exact hR _ g e1 L (.of_bel hx0) h1 t (by rw [h6, hP]) hFt (by omega) (.refl _)
    · refine c82 ?_
      unfold F82
      simp [h1.cell, -newP_some, -storeW_ptr, -zero_96, -zero_93]
      refine newL zero_93 fun t3 v1 b1 hq3 _ c3 => ?_
      refine stC (A := []) (c := [.slice none 0 0]) (j := 0) c3 rfl (by simp) size_93 rfl rfl ?_
      rw [show (([] : List Value) ++ [Value.slice none 0 0].set 0 (Value.slice (some ⟨g, 0, none⟩) L.length L.length)).toArray = #[Value.slice (some ⟨g, 0, none⟩) L.length L.length] from rfl]
      have c3 : hp (upd v1 t3 (.cells #[.slice (some ⟨g, 0, none⟩) L.length L.length] 93)) t3 = some (.cells #[.slice (some ⟨g, 0, none⟩) L.length L.length] 93) := by rw [upd_same, c3]; rfl
      have b1 : Bel u (upd v1 t3 (.cells #[.slice (some ⟨g, 0, none⟩) L.length L.length] 93)) := bu b1 hq3 _
      generalize upd v1 t3 (.cells #[.slice (some ⟨g, 0, none⟩) L.length L.length] 93) = v2 at c3 b1 ⊢
      have hd := bd (br v2)
      have b2 := bt b1 hd
      have c3 := bg hd c3
      have c2 := bg b2 c2
      have h2 := h1.bel b2
      refine drawn' (St0 := fun x => hp x t2 = some (.cells #[Value.pointer (some ⟨r, 0, none⟩)] 89)) c2 fun St hS => ?_
      refine rdS (fun x hx => (hS x).1 hx) (x := .pointer (some ⟨r, 0, none⟩)) rfl ?_
      refine rdS (fun x hx => (hS x).1 hx) (x := .pointer (some ⟨r, 0, none⟩)) rfl ?_
      refine mkSlots (by omega) ?_
      have hb0 := bt hx0 b2
      have hx3 := bx' v2.drew [.cells ((List.replicate P zPm).flatMap encPm).toArray 96]
      have g3 := hp_new v2.drew (.cells ((List.replicate P zPm).flatMap encPm).toArray 96)
      have c3 := bg hx3 c3
      have c2 := bg hx3 c2
      have h3 := h2.bel hx3
      have hb3 := bt hb0 hx3
      have hgt := hx3.size
      have hb0s := hb0.size
      generalize hg' : v2.drew.heap.size = g' at g3 hgt ⊢
      have hg'l := hp_lt g3
      have ht2l := hp_lt c2
      have ht3l := hp_lt c3
      generalize ext v2.drew [.cells ((List.replicate P zPm).flatMap encPm).toArray 96] = v3 at g3 c3 c2 h3 hb3 hgt hg'l ht2l ht3l ⊢
      refine ⟨(hS _).2 c2, ?_⟩
      have n2r : t2 ≠ r := by omega
      have n3r : t3 ≠ r := by have := hx0.size; omega
      have ng'r : g' ≠ r := by omega
      simp only [pure_nil, fld_153_1, fld_153_2]
      refine stC (A := []) (c := [.int .u64 (seed : Nat), .slice (some ⟨g, 0, none⟩) L.length L.length, .int .i64 (many : Nat)]) (j := 1) h3.cell rfl (by simp) size_93 rfl rfl ?_
      rw [show (([] : List Value) ++ [Value.int .u64 (seed : Nat), .slice (some ⟨g, 0, none⟩) L.length L.length, .int .i64 (many : Nat)].set 1 (.slice (some ⟨g', 0, none⟩) P P)).toArray = #[Value.int .u64 (seed : Nat), .slice (some ⟨g', 0, none⟩) P P, .int .i64 (many : Nat)] from rfl]
      refine ⟨(hS _).2 (by rw [upd_ne _ _ _ _ n2r]; exact c2), ?_⟩
      refine stC (A := []) (c := [Value.int .u64 (seed : Nat), .slice (some ⟨g', 0, none⟩) P P, .int .i64 (many : Nat)]) (j := 2) (by rw [upd_same, h3.cell]; rfl) rfl (by simp) size_3 rfl rfl ?_
      rw [show (([] : List Value) ++ [Value.int .u64 (seed : Nat), .slice (some ⟨g', 0, none⟩) P P, .int .i64 (many : Nat)].set 2 (.int .i64 0)).toArray = #[Value.int .u64 (seed : Nat), .slice (some ⟨g', 0, none⟩) P P, .int .i64 ((0 : Nat) : Int)] from rfl, upd_upd]
      have f4 := TFr.upd (r := r) (g := r) (b := r) v3 (.inl rfl) (.cells #[.int .u64 (seed : Nat), .slice (some ⟨g', 0, none⟩) P P, .int .i64 ((0 : Nat) : Int)] 153)
      have cr : hp (upd v3 r (.cells #[.int .u64 (seed : Nat), .slice (some ⟨g', 0, none⟩) P P, .int .i64 ((0 : Nat) : Int)] 153)) r = some (.cells #[.int .u64 (seed : Nat), .slice (some ⟨g', 0, none⟩) P P, .int .i64 ((0 : Nat) : Int)] 153) := by rw [upd_same, h3.cell]; rfl
      have hv4s : (upd v3 r (.cells #[.int .u64 (seed : Nat), .slice (some ⟨g', 0, none⟩) P P, .int .i64 ((0 : Nat) : Int)] 153)).heap.size = v3.heap.size := by simp
      generalize upd v3 r (.cells #[.int .u64 (seed : Nat), .slice (some ⟨g', 0, none⟩) P P, .int .i64 ((0 : Nat) : Int)] 153) = v4 at f4 cr hv4s ⊢
      have c2 := f4.blk _ _ c2 n2r n2r
      have c3 := f4.blk _ _ c3 n3r n3r
      have g3 := f4.blk _ _ g3 ng'r ng'r
      have hold := f4.blk _ _ h3.row h.ne.symm h.ne.symm
      have hkeys : ∀ x ∈ L, x.used = true → KeyM v4 B x := fun x hx hu => f4.keyE ⟨_, _, _, h3.cell, by decide⟩ ⟨_, _, _, h3.cell, by decide⟩ (h3.keys.used x hx hu)
      have hrt : (∃ cs E fr, hp v4 r = some (.cells cs E fr) ∧ E ≠ 5) ∧ (∃ cs E fr, hp v4 g' = some (.cells cs E fr) ∧ E ≠ 5) := ⟨⟨_, _, _, cr, by decide⟩, ⟨_, _, _, g3, by decide⟩⟩
      have hfr0 : TFr r r w v4 := (TFr.of_bel hb3).trans f4
      have hP8 : 8 ≤ P := by rw [← hP]; exact Nat.pow_le_pow_right (by decide) he3 (n := 2)
      have hlt : r < v4.heap.size ∧ g < v4.heap.size ∧ g' < v4.heap.size ∧ t2 < v4.heap.size ∧ t3 < v4.heap.size := by
        have := hb3.size; rw [hv4s]; omega
      have hr6 := h.geR
      have hg'B : B ≤ g' := by omega
      refine ⟨86, #[.pointer (some ⟨t3, 0, none⟩)], _, Jf v4 B r g g' t2 t3 seed e1 L, usedOf L, rfl, ?_, it86 (tb := t3) (g := g) (L := L) (by rw [hl]; have := Nat.pow_le_pow_right (n := 2) (by decide) he; omega), ?_, ?_, ?_, ?_, ?_, ?_⟩
      · exact callFunc_enters Try.func86 (by kernel_rfl) (by kernel_rfl)
      · intro x hx
        obtain ⟨y, _, rfl⟩ := List.mem_map.1 hx
        rfl
      · intro i W j
        exact ⟨j.c3, j.old⟩
      · refine ⟨Nat.le_refl _, c2, c3, hold, .of_bel (br v4), List.replicate P zPm, by rw [List.length_replicate, hP], ?_, g3, keys_empty _ _ _, ?_, ?_⟩
        · rw [List.length_replicate]; exact cr
        · rw [List.length_replicate]; exact tb_empty _ _
        · rw [ks_empty]; exact .refl _
      · intro i W W' j hS
        exact j.below hlt hS
      · intro i x W hx j hsz
        obtain ⟨y, hyL, hyu, rfl, hyk⟩ := usedOf_at hx
        obtain ⟨M, m1, m2, m3, m4, m5, m6⟩ := j.new
        have hyM := hkeys y hyL hyu
        simp [j.c2]
        have hxi := (List.getElem?_eq_some_iff.1 hyk).1
        have tbW : TbM W B r g' seed M i := ⟨m2, m3, ⟨fun x hx hu => j.fr.keyE hrt.1 hrt.2 (m4.used x hx hu), m4.zero⟩, hr6, hg'B⟩
        have hyW := j.fr.keyE hrt.1 hrt.2 hyM
        have hno : y.key ∉ ks M := fun hin => by
          have hin := m6.mem_iff.1 hin
          obtain ⟨i2, hi2, e2⟩ := List.mem_iff_getElem.1 hin
          rw [List.length_take] at hi2
          rw [List.getElem_take] at e2
          have e3 := (List.getElem?_eq_some_iff.1 hyk).2
          exact List.pairwise_iff_getElem.1 hnd i2 i (by omega) hxi (by omega) (e2.trans e3.symm)
        have hMl : (ks M).length = i := by rw [m6.length_eq, List.length_take]; omega
        refine c65b (s65 tbW m5 hs m1 (by omega) (by rw [m1, hP]; exact hP8) (n := y.n) ⟨hyW.kc, hyW.byte, hyW.len⟩ hno (by rw [hMl, m1, hP]; omega) (by omega) fun W' L' f1 f2 f3 f4 f5 f6 => ?_)
        have n2g : t2 ≠ g' := by rintro rfl; rw [g3] at c2; injection c2 with c2; injection c2 with _ c2; cases c2
        have n3g : t3 ≠ g' := by rintro rfl; rw [g3] at c3; injection c3 with c3; injection c3 with _ c3; cases c3
        refine ⟨⟨Nat.le_trans j.size f1.size, f1.blk _ _ j.c2 n2r n2g, f1.blk _ _ j.c3 n3r n3g, f1.blk _ _ j.old h.ne.symm (by omega), j.fr.trans f1, L', by rw [f4, m1], f2.cell, f2.row, ⟨fun x hx hu => ?_, f2.keys.zero⟩, by rw [f4]; exact f3, ?_⟩, f1.size, fun b hb1 hb2 => ?_⟩
        · obtain ⟨z, hz, hzu, hzv, hzk⟩ := f6 x hx hu
          have hkz : KeyM v4 B z := by
            rcases hz with rfl | hz
            · exact ⟨hyM.kc, hyM.byte, hyM.len⟩
            · exact m4.used z hz hzu
          exact ⟨by rw [← hzv, ← hzk]; exact hkz.kc, by rw [← hzk]; exact hkz.byte, by rw [← hzk]; exact hkz.len⟩
        · have e3 := (List.getElem?_eq_some_iff.1 hyk).2
          rw [List.take_succ_eq_append_getElem hxi, e3]
          exact f5.trans ((m6.cons _).trans (List.perm_append_singleton _ _).symm)
        · have ho : hp W b = some (W.heap[b]'hb2) := Array.getElem?_eq_getElem hb2
          exact (f1.blk b _ ho (by omega) (by omega)).trans ho.symm
      · intro W D j hD1 hD2 hD3
        obtain ⟨M, m1, m2, m3, m4, m5, m6⟩ := j.new
        rw [usedOf_length, hcnt] at m2
        rw [usedOf_length, List.take_length] at m6
        refine takeD_of hD3 ?_
        have frD : TFr r g' v4 (upd W D (.deferred none)) := ⟨fun w0 a b c => bu (j.fr.bel w0 a b c) (by omega) _, fun b o hb n1 n2 => by
          have := hp_lt hb
          rw [upd_ne _ _ _ _ (by omega)]; exact j.fr.blk b o hb n1 n2, by have := j.size; simpa using this⟩
        refine hR _ g' e1 M ⟨fun w0 a b c => frD.bel w0 a (by omega) (hfr0.bel w0 a b c), fun b o hb n1 n2 => frD.blk b o (hfr0.blk b o hb n1 n2) n1 (by have := hp_lt hb; omega), Nat.le_trans hfr0.size frD.size⟩
          ⟨by rw [upd_ne _ _ _ _ (by omega)]; exact m2, by rw [upd_ne _ _ _ _ (by omega)]; exact m3, ⟨fun x hx hu => frD.keyE hrt.1 hrt.2 (m4.used x hx hu), m4.zero⟩, hr6, hg'B⟩ m5 m1 hFt (by omega) m6
end Go.Proofs.Ytbcmoikpmmjlkaa
