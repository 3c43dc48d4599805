/- Law 14: Remove. -/
import Derived.Test.YtbcmoikpmmjlkaaQM
namespace Go.Proofs.Ytbcmoikpmmjlkaa
open Go Eng
set_option maxRecDepth 100000
set_option maxHeartbeats 1000000 in
/-- probe.Remove. -/
theorem s29 {w0 w : World} {r seed : Nat} {L : List Pm} (h : Tab w w0.heap.size r seed L) (hb : Bel w0 w) (hs : seed < 18446744073709551616) {v : Value} {k : List Nat} (hk : Kin w r v k) (hlen : (ks L).length ≤ 500) {R : Value → World → Prop}
    (hR : ∀ w' L' x, Bel w0 w' → Tab w' w0.heap.size r seed L' → (ks L').length ≤ (ks L).length → (1 ≤ k.length → k.length ≤ 64 → k ∈ ks L → x = 0 ∧ (k :: ks L').Perm (ks L)) → R (.int .i64 x) w') :
    F29 (.pointer (some ⟨r, 0, none⟩)) v w R := by
  obtain ⟨g, e, h1, ht, hl, hft, he⟩ := h.out
  have hn8 : 8 ≤ L.length := by rw [hl]; exact ft_eight hft
  have hkb := hk.kb
  have hrw := hp_lt h1.cell
  have hgw := hp_lt h1.row
  obtain ⟨ka, kc, rfl⟩ := hk.form
  unfold F29
  refine (newP_some _ _ _ _).2 ?_
  have hx0 := bx' w [.cells (Value.pointer (some ⟨r, 0, none⟩)).cells 89]
  have c2 := hp_new w (.cells (Value.pointer (some ⟨r, 0, none⟩)).cells 89)
  generalize ext w [.cells (Value.pointer (some ⟨r, 0, none⟩)).cells 89] = w1 at hx0 c2 ⊢
  have e0 : (Value.pointer (some ⟨r, 0, none⟩)).cells = #[Value.pointer (some ⟨r, 0, none⟩)] := rfl
  rw [e0] at c2
  have h2w : w.heap.size ≤ w.heap.size := Nat.le_refl _
  generalize hq2 : w.heap.size = t2 at c2 h2w ⊢
  rw [← hq2] at h2w
  have h2 := h1.bel hx0
  simp [c2, -newP_some, -storeW_ptr]
  refine c62 (s62 h2 ?_)
  simp [-newP_some, -storeW_ptr]
  refine c50 (s50 ?_)
  have hb1 := bt hb hx0
  by_cases hmk : 1 ≤ k.length ∧ k.length ≤ 64
  · have hkn : k ≠ [] := by rintro rfl; simp at hmk
    have hbs := (hkb.bel hx0).bs hkn
    obtain ⟨u, hu⟩ := unused_of hl (by have := ft_two hft; omega)
    simp [hmk.1, hmk.2, c2, -newP_some, -storeW_ptr]
    refine c34 (s34 h2 ht hs hl (by omega) hbs hk.byte (by omega) hu (fun w2 p b2 hpu hpk => ?_) (fun w2 b2 hno => ?_))
    · have c2' := bg b2 c2
      simp [c2', -newP_some, -storeW_ptr]
      refine c63 (s63 (h2.bel b2) hs hl (by omega) (hbs.bel b2) hk.byte (by omega) hu fun w3 F b3 hF f1 f2 => ?_)
      have hin : k ∈ ks L := (ks_has (by omega)).2 ⟨p, hpu, hpk⟩
      have hfd : (sl L (hm seed L.length k + F)).used = true ∧ (sl L (hm seed L.length k + F)).key = k := by
        refine Classical.byContradiction fun hc => ?_
        exact found_or ht (by omega) hu f1 f2 hc p hpu hpk
      have h3 := h2.bel (bt b2 b3)
      have b3w := bt hx0 (bt b2 b3)
      have c3 := bg b3 c2'
      generalize hm seed L.length k + F = q at hfd ⊢
      simp [-newP_some, -storeW_ptr, -zero_3, -Int.natCast_emod]
      refine newL zero_3 fun t7 w4 b4 hq7 _ c7 => ?_
      refine stC (A := []) (c := [.int .i64 0]) (j := 0) c7 rfl (by simp) size_3 rfl rfl ?_
      rw [show (([] : List Value) ++ [Value.int .i64 0].set 0 (.int .i64 (q % L.length : Nat))) = [Value.int .i64 (q % L.length : Nat)] from rfl]
      have c7 : hp (upd w4 t7 (.cells [Value.int .i64 (q % L.length : Nat)].toArray 3)) t7 = some (.cells #[Value.int .i64 (q % L.length : Nat)] 3) := by rw [upd_same, c7]; rfl
      have b4 : Bel w3 (upd w4 t7 (.cells [Value.int .i64 (q % L.length : Nat)].toArray 3)) := bu b4 hq7 _
      generalize upd w4 t7 (.cells [Value.int .i64 (q % L.length : Nat)].toArray 3) = w5 at c7 b4 ⊢
      have h5 := h3.bel b4
      have c5 := bg b4 c3
      have b5 := bt b3w b4
      have h7w : w.heap.size ≤ t7 := Nat.le_trans b3w.size hq7
      obtain ⟨m, hm1, hm2⟩ := md_reach (show 0 < L.length by omega) q u
      have hum : (sl L (q + m)).used = false := by rw [sl_congr hm2]; exact hu
      have hm0 : 0 < m := by
        refine Nat.pos_of_ne_zero fun e => ?_
        subst e
        rw [Nat.add_zero, hfd.1] at hum; cases hum
      have hRm : Rm w w5 w0.heap.size r g t2 t7 seed L L (ks L).length q 0 m := ⟨h5, rfl, .of_bel b5, c5, c7, ht.remove q hfd.1, .refl _, hm0, hum, fun x hx => by
        cases hxu : x.used with
        | false => rw [h1.keys.zero x hx hxu]; exact Nat.zero_le _
        | true =>
          obtain ⟨px, _, rfl⟩ := sl_of_mem hx
          exact Nat.le_of_lt (ht.far_lt (by omega) hu hxu)⟩
      refine ⟨fun _ z => ∃ i L', Rm w z w0.heap.size r g t2 t7 seed L L' (ks L).length q i m, fun _ z => match cellOf (hp z t7) 0 with | some (.int _ x) => L.length - dist L.length (q % L.length) x.toNat | _ => 0, ⟨0, L, hRm⟩, ?_⟩
      rintro s z ⟨i, L', hr⟩
      refine c66 (s66 hr hl he hn8 hm1 (by omega) h7w hrw hgw (fun z' M hr' => ?_) fun z' M f1 f2 f3 f4 f5 f6 => ?_)
      · refine ifB (fun _ => ?_) (fun hh => by cases hh)
        refine ⟨⟨i + 1, M, hr'⟩, ?_⟩
        have d1 := dist_eq (n := L.length) (q := q) (i := i) (by have := hr.im; omega)
        have d2 := dist_eq (n := L.length) (q := q) (i := i + 1) (by have := hr'.im; omega)
        have e1 : cellOf (hp z t7) 0 = some (.int .i64 ((q + i) % L.length : Nat)) := by rw [hr.c7]; rfl
        have e2 : cellOf (hp z' t7) 0 = some (.int .i64 ((q + (i + 1)) % L.length : Nat)) := by rw [hr'.c7]; rfl
        dsimp only; rw [e1, e2]
        simp only [Int.toNat_natCast, d1, d2]
        have := hr.im
        omega
      · refine ifB (fun hh => by cases hh) (fun _ => ?_)
        have hperm : (k :: ks M).Perm (ks L) := by
          have a1 := ks_perm (sl_set_perm (L := L) (n := L.length) rfl (by omega) q zPm)
          rw [ks_cons, hfd.1, if_pos rfl, hfd.2, ks_cons] at a1
          exact (f5.cons k).trans a1
        have hMl : (ks M).length + 1 = (ks L).length := by have := hperm.length_eq; simpa using this
        simp [f6, f2.cell, -newP_some, -storeW_ptr, -zero_3, -Int.natCast_emod]
        have e6 : IntKind.i64.wrap (((ks L).length : Int) - 1) = (((ks M).length : Nat) : Int) := by rw [wrap_i64 (by omega) (by omega)]; omega
        rw [e6]
        refine stC (A := []) (c := [.int .u64 (seed : Nat), .slice (some ⟨g, 0, none⟩) M.length M.length, .int .i64 ((ks L).length : Nat)]) (j := 2) f2.cell rfl (by simp) size_3 rfl rfl ?_
        rw [show (([] : List Value) ++ [Value.int .u64 (seed : Nat), .slice (some ⟨g, 0, none⟩) M.length M.length, .int .i64 ((ks L).length : Nat)].set 2 (.int .i64 ((ks M).length : Nat))) = [Value.int .u64 (seed : Nat), .slice (some ⟨g, 0, none⟩) M.length M.length, .int .i64 ((ks M).length : Nat)] from rfl]
        have n2r : t2 ≠ r := by omega
        have fu := TFr.upd (r := r) (g := g) (b := r) z' (.inl rfl) (.cells [Value.int .u64 (seed : Nat), .slice (some ⟨g, 0, none⟩) M.length M.length, .int .i64 ((ks M).length : Nat)].toArray 153)
        have tb6 : TbM (upd z' r (.cells [Value.int .u64 (seed : Nat), .slice (some ⟨g, 0, none⟩) M.length M.length, .int .i64 ((ks M).length : Nat)].toArray 153)) w0.heap.size r g seed M (ks M).length :=
          ⟨by rw [upd_same, f2.cell]; rfl, by rw [upd_ne _ _ _ _ f2.ne.symm]; exact f2.row, ⟨fun x hx hu => fu.key f2 (f2.keys.used x hx hu), f2.keys.zero⟩, f2.geR, f2.geG⟩
        have c26 : hp (upd z' r (.cells [Value.int .u64 (seed : Nat), .slice (some ⟨g, 0, none⟩) M.length M.length, .int .i64 ((ks M).length : Nat)].toArray 153)) t2 = _ := (upd_ne _ _ _ _ n2r).trans f6
        have f7 := f1.trans fu
        generalize upd z' r (.cells [Value.int .u64 (seed : Nat), .slice (some ⟨g, 0, none⟩) M.length M.length, .int .i64 ((ks M).length : Nat)].toArray 153) = z6 at tb6 c26 f7 ⊢
        have hd := bd (br z6)
        have tb7 := tb6.bel hd
        have c27 := bg hd c26
        have f8 := f7.trans (.of_bel hd)
        have hb8 := f8.bel w0 h1.geR h1.geG hb
        have tM : Tb (hm seed M.length) M.length M := by rw [f4]; exact f3
        have hndM : (ks M).Nodup := (List.nodup_cons.1 (hperm.nodup_iff.2 h.nd)).2
        refine drawn' (St0 := fun x => hp x t2 = some (.cells #[.pointer (some ⟨r, 0, none⟩)] 89) ∧ cellOf (hp x r) 2 = some (.int .i64 ((ks M).length : Nat))) ⟨c27, by rw [tb7.cell]; rfl⟩ fun St hS => ?_
        refine rdS (fun x hx => ((hS x).1 hx).1) (x := .pointer (some ⟨r, 0, none⟩)) rfl ?_
        refine rdS (fun x hx => ((hS x).1 hx).1) (x := .pointer (some ⟨r, 0, none⟩)) rfl ?_
        simp only [pure_nil, fld_153_2]
        refine ⟨.int .i64 ((ks M).length : Nat), fun x hx => by simp only [loadW_ptr, shape_3, ldSh_one]; exact ((hS x).1 hx).2, ?_⟩
        refine c64 (s64 tb7 tM hs (f4.trans hl) he rfl hndM (Nat.le_refl _) (by omega) hb8.size fun w8 g8 e8 L8 d1 d2 d3 d4 d5 d6 d7 => ?_)
        refine ⟨(hS _).2 ⟨d1.blk _ _ c27 n2r n2r, by rw [d2.cell]; rfl⟩, ?_⟩
        refine hR w8 L8 0 (d1.bel w0 h1.geR h1.geR hb8) ⟨⟨g8, e8, by rw [d7.length_eq]; exact d2, d3, d4, by rw [d7.length_eq]; exact d5, d6⟩, d7.nodup_iff.2 hndM⟩ (by rw [d7.length_eq]; omega) fun _ _ _ => ⟨rfl, (d7.cons k).trans hperm⟩
    · simp
      exact hR w2 L 6 (bt hb1 b2) ((h.bel hx0).bel b2) (Nat.le_refl _) fun _ _ hin => by
        obtain ⟨p, a, b⟩ := (ks_has (by omega)).1 hin
        exact absurd b (hno p a)
  · have := hR w1 L 1 hb1 (h.bel hx0) (Nat.le_refl _) (fun a b => absurd ⟨a, b⟩ hmk)
    rw [decide_eq_false hmk]
    simp
    exact this
end Go.Proofs.Ytbcmoikpmmjlkaa
