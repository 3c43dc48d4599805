/- Law 14: Set. -/
import Derived.Test.YtbcmoikpmmjlkaaQK
namespace Go.Proofs.Ytbcmoikpmmjlkaa
open Go Eng
set_option maxRecDepth 100000
/-- A table that is in order. -/
structure Tab (w : World) (B r seed : Nat) (L : List Pm) : Prop where
  out : ∃ g e, TbM w B r g seed L (ks L).length ∧ Tb (hm seed L.length) L.length L ∧ L.length = 2 ^ e ∧ Ft (ks L).length e ∧ e ≤ 12
  nd : (ks L).Nodup
theorem Tab.bel {w w' : World} {B r seed : Nat} {L : List Pm} (h : Tab w B r seed L) (b : Bel w w') : Tab w' B r seed L := by
  obtain ⟨g, e, h1, h2⟩ := h.out
  exact ⟨⟨g, e, h1.bel b, h2⟩, h.nd⟩
theorem ft_two {m e : Nat} (h : Ft m e) : m + 2 ≤ 2 ^ e := by
  have h8 : 2 ^ 3 ≤ 2 ^ e := Nat.pow_le_pow_right (by decide) h.1
  have := h.2.1
  omega
theorem ft_eight {m e : Nat} (h : Ft m e) : 8 ≤ 2 ^ e := Nat.pow_le_pow_right (n := 2) (by decide) h.1
theorem Tb.same {h : List Nat → Nat} {n : Nat} {L L' : List Pm} (t : Tb h n L) (hl : L'.length = L.length) (he : ∀ p, (sl L' p).used = (sl L p).used ∧ (sl L' p).key = (sl L p).key ∧ (sl L' p).far = (sl L p).far) : Tb h n L' := by
  refine ⟨hl.trans t.len, fun p hp => ?_, fun p hp hf => ?_⟩
  · obtain ⟨e1, e2, e3⟩ := he p
    rw [e2, e3]; exact t.home p (by rw [← e1]; exact hp)
  · obtain ⟨e1, e2, e3⟩ := he (p + 1)
    obtain ⟨d1, d2, d3⟩ := he p
    obtain ⟨b1, b2, b3⟩ := t.prev p (by rw [← e1]; exact hp) (by rw [← e3]; exact hf)
    unfold Before
    rw [d1, d2, d3, e2, e3]
    exact ⟨b1, b2, b3⟩
theorem ks_set_same : ∀ {L : List Pm} {i : Nat} {y : Pm} (hi : i < L.length), y.used = L[i].used → y.key = L[i].key → ks (L.set i y) = ks L
  | a :: L, 0, y, _, h1, h2 => by
    rw [List.set_cons_zero, ks_cons, ks_cons]
    have h1 : y.used = a.used := h1
    have h2 : y.key = a.key := h2
    rw [h1, h2]
  | a :: L, i + 1, y, hi, h1, h2 => by
    rw [List.set_cons_succ, ks_cons, ks_cons, ks_set_same (L := L) (i := i) (y := y) (by simpa using hi) h1 h2]
/-- A slot's number is set. -/
theorem stNum {w : World} {g : Nat} {L : List Pm} (hg : hp w g = some (.cells (L.flatMap encPm).toArray 96)) {i : Nat} (hi : i < L.length) (n : Int) {K : World → Prop} (hK : K (upd w g (.cells ((L.set i { L[i] with n := n }).flatMap encPm).toArray 96))) :
    pureP Pg (Instr.indexAt 93 (.slice (some ⟨g, 0, none⟩) L.length L.length) (.int .i64 (i : Nat))) fun t => pureP Pg (Instr.fieldAt 96 t 2) fun q => getU (storeW Pg 35 q (.int .u64 n) w) K := by
  refine (idxR (T := 93) (k := 4) (by kernel_rfl) hi).2 ?_
  have e1 : L = L.take i ++ L[i] :: L.drop (i + 1) := by rw [← List.drop_eq_getElem_cons hi, List.take_append_drop]
  have e2 : L.set i { L[i] with n := n } = L.take i ++ { L[i] with n := n } :: L.drop (i + 1) := by
    rw [List.set_eq_take_append_cons_drop, if_pos hi]
  have hA : ((L.take i).flatMap encPm).length = i * 4 := by rw [flat_len, List.length_take, Nat.min_eq_left (by omega)]
  rw [e2, List.flatMap_append, List.flatMap_cons] at hK
  have hg' : hp w g = some (.cells ((L.take i).flatMap encPm ++ (encPm L[i] ++ (L.drop (i + 1)).flatMap encPm)).toArray 96) := by
    rw [hg]
    conv => lhs; rw [e1, List.flatMap_append, List.flatMap_cons]
  generalize (L.take i).flatMap encPm = A at *
  generalize (L.drop (i + 1)).flatMap encPm = rest at *
  generalize L[i] = s at *
  rw [Nat.zero_add, ← hA]
  simp only [fld_96_2]
  refine stC (A := A) (c := encPm s ++ rest) (j := 2) hg' rfl (by simp [encPm]) size_35 rfl rfl ?_
  exact hK
theorem Kc.weaken {w : World} {B B' : Nat} {v : Value} {k : List Nat} (h : Kc w B' v k) (hb : B ≤ B') : Kc w B v k := ⟨h.form, fun hn => by
  obtain ⟨b, c, cs, fr, h1, h2, h3, h4, h5⟩ := h.bs hn
  exact ⟨b, c, cs, fr, h1, h2, h3, Nat.le_trans hb h4, h5⟩⟩
/-- A key that is handed in. -/
structure Kin (w : World) (r : Nat) (v : Value) (k : List Nat) : Prop where
  form : ∃ a c, v = .slice a k.length c
  bs : k ≠ [] → ∃ b off c, v = .slice (some ⟨b, off, none⟩) k.length c ∧ k.length ≤ c ∧ At w b off (byC k) ∧ b ≠ r
  byte : ∀ c ∈ k, c < 256
theorem Kin.kb {w : World} {r : Nat} {v : Value} {k : List Nat} (h : Kin w r v k) : Kb w v k := ⟨h.form, fun hn => by
  obtain ⟨b, o, c, h1, h2, h3, _⟩ := h.bs hn
  exact ⟨b, o, c, h1, h2, h3⟩⟩
theorem Kin.bel {w w' : World} {r : Nat} {v : Value} {k : List Nat} (h : Kin w r v k) (hb : Bel w w') : Kin w' r v k := ⟨h.form, fun hn => by
  obtain ⟨b, o, c, h1, h2, h3, h4⟩ := h.bs hn
  exact ⟨b, o, c, h1, h2, h3.bel hb, h4⟩, h.byte⟩
theorem Kin.fr {w w' : World} {r : Nat} {v : Value} {k : List Nat} (h : Kin w r v k) (hb : TFr r r w w') : Kin w' r v k := ⟨h.form, fun hn => by
  obtain ⟨b, o, c, h1, h2, h3, h4⟩ := h.bs hn
  obtain ⟨cs, E, fr, h5, h6⟩ := h3
  exact ⟨b, o, c, h1, h2, ⟨cs, E, fr, hb.blk _ _ h5 h4 h4, h6⟩, h4⟩, h.byte⟩
set_option maxHeartbeats 1000000 in
/-- probe.Set. -/
theorem s28 {w0 w : World} {r seed : Nat} {L : List Pm} (h : Tab w w0.heap.size r seed L) (hb : Bel w0 w) (hs : seed < 18446744073709551616) {v : Value} {k : List Nat} {n : Int} (hk : Kin w r v k) (hlen : (ks L).length ≤ 500) {R : Value → World → Prop}
    (hR : ∀ w' L' x, Bel w0 w' → Tab w' w0.heap.size r seed L' → (ks L').length ≤ (ks L).length + 1 → (1 ≤ k.length → k.length ≤ 64 → x = 0 ∧ (k ∉ ks L → (ks L').Perm (k :: ks L))) → R (.int .i64 x) w') :
    F28 (.pointer (some ⟨r, 0, none⟩)) v (.int .u64 n) w R := by
  obtain ⟨g, e, h1, ht, hl, hft, he⟩ := h.out
  have hn8 : 8 ≤ L.length := by rw [hl]; exact ft_eight hft
  have hkb := hk.kb
  obtain ⟨ka, kc, rfl⟩ := hk.form
  unfold F28
  refine c62 (s62 h1 ?_)
  simp
  refine c50 (s50 ?_)
  by_cases hmk : 1 ≤ k.length ∧ k.length ≤ 64
  · have hkn : k ≠ [] := by rintro rfl; simp at hmk
    have hb1 := hkb.bs hkn
    obtain ⟨u, hu⟩ := unused_of hl (by have := ft_two hft; omega)
    simp [hmk.1, hmk.2]
    refine c34 (s34 h1 ht hs hl (by omega) hb1 hk.byte (by omega) hu (fun w1 p b1 hp hpk => ?_) (fun w1 b1 hno => ?_))
    · simp
      refine c63 (s63 (h1.bel b1) hs hl (by omega) (hb1.bel b1) hk.byte (by omega) hu fun w2 F b2 hF f1 f2 => ?_)
      have b3 := bt b1 b2
      have h3 := h1.bel b3
      have hin : k ∈ ks L := (ks_has (by omega)).2 ⟨p, hp, hpk⟩
      simp [h3.cell, -Int.natCast_emod]
      have hi := Nat.mod_lt (hm seed L.length k + F) (show 0 < L.length by omega)
      have hiu : (sl L (hm seed L.length k + F)).used = true := by
        refine Classical.byContradiction fun hc => ?_
        exact found_or ht (by omega) hu f1 f2 (fun hh => hc hh.1) p hp hpk
      have hsi : sl L (hm seed L.length k + F) = L[(hm seed L.length k + F) % L.length] := by
        unfold sl
        rw [List.getD_eq_getElem?_getD, List.getElem?_eq_getElem hi]; rfl
      rw [hsi] at hiu
      clear hsi
      generalize (hm seed L.length k + F) % L.length = i at hi hiu ⊢
      refine stNum h3.row hi n ?_
      have hfr := TFr.upd (r := r) (g := g) (b := g) w2 (.inr rfl) (.cells ((L.set i { L[i] with n := n }).flatMap encPm).toArray 96)
      have hks : ks (L.set i { L[i] with n := n }) = ks L := ks_set_same hi rfl rfl
      have hlen' : (L.set i { L[i] with n := n }).length = L.length := List.length_set
      have hmem : ∀ x ∈ L.set i { L[i] with n := n }, x = { L[i] with n := n } ∨ x ∈ L := fun x hx => (List.mem_or_eq_of_mem_set hx).symm
      have hsl : ∀ p, (sl (L.set i { L[i] with n := n }) p).used = (sl L p).used ∧ (sl (L.set i { L[i] with n := n }) p).key = (sl L p).key ∧ (sl (L.set i { L[i] with n := n }) p).far = (sl L p).far := by
        intro p
        have e1 := sl_set (L := L) (n := L.length) (q := i) (p := p) (x := { L[i] with n := n }) rfl (by omega)
        rw [Nat.mod_eq_of_lt hi] at e1
        rw [e1]
        split
        · rename_i hpi
          have e2 : sl L p = L[i] := by
            unfold sl
            rw [hpi, List.getD_eq_getElem?_getD, List.getElem?_eq_getElem hi]; rfl
          rw [e2]
          exact ⟨rfl, rfl, rfl⟩
        · exact ⟨rfl, rfl, rfl⟩
      refine hR _ (L.set i { L[i] with n := n }) 0 (bu (bt hb b3) h1.geG _) ⟨⟨g, e, ⟨?_, ?_, ⟨fun x hx hxu => ?_, fun x hx hxu => ?_⟩, h1.geR, h1.geG⟩, ?_, by rw [hlen']; exact hl, by rw [hks]; exact hft, he⟩, by rw [hks]; exact h.nd⟩ (by rw [hks]; omega) fun _ _ => ⟨rfl, fun hni => absurd hin hni⟩
      · rw [upd_ne _ _ _ _ h1.ne, hlen', hks]; exact h3.cell
      · rw [upd_same, h3.row]; rfl
      · rcases hmem x hx with rfl | hx
        · have := hfr.key h3 (h3.keys.used _ (List.getElem_mem hi) hxu)
          exact ⟨this.kc, this.byte, this.len⟩
        · exact hfr.key h3 (h3.keys.used x hx hxu)
      · rcases hmem x hx with rfl | hx
        · have hxu : L[i].used = false := hxu
          rw [hiu] at hxu; cases hxu
        · exact h3.keys.zero x hx hxu
      · rw [hlen']; exact ht.same hlen' hsl
    · have hno' : k ∉ ks L := fun hin => by
        obtain ⟨p, a, b⟩ := (ks_has (by omega)).1 hin
        exact hno p a b
      have h2 := h1.bel b1
      have e6 : IntKind.i64.wrap (((ks L).length : Int) + 1) = (((ks L).length + 1 : Nat) : Int) := i64_succ (by omega)
      simp [h2.cell]
      rw [e6]
      have hbw := bt hb b1
      refine c64 (s64 h2 ht hs hl he rfl h.nd (Nat.le_succ _) (by omega) hbw.size fun w2 g2 e2 L2 f1 f2 f3 f4 f5 f6 f7 => ?_)
      have hb2 := f1.bel w0 h1.geR h1.geR hbw
      refine c37 (s37 ((hk.bel b1).fr f1).kb (by omega) fun w3 v3 b3 hk3 => ?_)
      obtain ⟨va, vc, rfl⟩ := hk3.form
      have h3 := f2.bel b3
      have hb3 := bt hb2 b3
      refine c65b (s65 (h3) f3 hs f4 (by omega) (by rw [f4]; exact ft_eight f5) (n := n) (k := k) ⟨hk3.weaken hb2.size, hk.byte, hmk⟩ (fun hin => hno' (f7.mem_iff.1 hin)) (by have := ft_two f5; rw [f7.length_eq, f4]; omega) (by omega) fun w4 L4 d1 d2 d3 d4 d5 d6 => ?_)
      have hp4 : (ks L4).Perm (k :: ks L) := d5.trans (f7.cons _)
      refine hR w4 L4 0 (d1.bel w0 h1.geR f2.geG hb3) ⟨⟨g2, e2, by rw [hp4.length_eq]; exact d2, by rw [d4]; exact d3, by rw [d4]; exact f4, by rw [hp4.length_eq]; exact f5, f6⟩, hp4.nodup_iff.2 (List.nodup_cons.2 ⟨hno', h.nd⟩)⟩ (by rw [hp4.length_eq]; simp) fun _ _ => ⟨rfl, fun _ => hp4⟩
  · have := hR w L 1 hb h (by omega) (fun a b => absurd ⟨a, b⟩ hmk)
    rw [decide_eq_false hmk]
    simp
    exact this
end Go.Proofs.Ytbcmoikpmmjlkaa
