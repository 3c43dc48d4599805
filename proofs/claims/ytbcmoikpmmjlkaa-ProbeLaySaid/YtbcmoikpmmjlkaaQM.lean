/- Law 14: a removed key's hole is shut. -/
import Derived.Test.YtbcmoikpmmjlkaaQL
namespace Go.Proofs.Ytbcmoikpmmjlkaa
open Go Eng
set_option maxRecDepth 100000
theorem KeyM.tmpE {w : World} {B b8 E : Nat} {x : Pm} {cs : Array Value} {fr : Nat × Nat} (k : KeyM w B x) (h8 : hp w b8 = some (.cells cs E fr)) (hE : E ≠ 5) (o : Obj) : KeyM (upd w b8 o) B x :=
  ⟨k.kc.keep fun b o' hb hE' _ => by
    rw [upd_ne _ _ _ _ (by rintro rfl; rw [h8] at hb; injection hb with hb; exact hE (hE' _ _ _ hb.symm))]
    exact hb, k.byte, k.len⟩
theorem TbM.tmpE {w : World} {B r g seed many b8 E : Nat} {L : List Pm} {cs : Array Value} {fr : Nat × Nat} (h : TbM w B r g seed L many) (h8 : hp w b8 = some (.cells cs E fr)) (hE : E ≠ 5) (h1 : b8 ≠ r) (h2 : b8 ≠ g) (o : Obj) : TbM (upd w b8 o) B r g seed L many :=
  ⟨by rw [upd_ne _ _ _ _ h1.symm]; exact h.cell, by rw [upd_ne _ _ _ _ h2.symm]; exact h.row, ⟨fun x hx hu => (h.keys.used x hx hu).tmpE h8 hE o, h.keys.zero⟩, h.geR, h.geG⟩
/-- A slot is written anew. -/
theorem TbM.put {w : World} {B r g seed many i : Nat} {L : List Pm} (h : TbM w B r g seed L many) {x : Pm} (hu : x.used = true → KeyM w B x) (hz : x.used = false → x = zPm) : TbM (upd w g (.cells ((L.set i x).flatMap encPm).toArray 96)) B r g seed (L.set i x) many := by
  have hfr := TFr.upd (r := r) (g := g) (b := g) w (.inr rfl) (.cells ((L.set i x).flatMap encPm).toArray 96)
  have hmem : ∀ y ∈ L.set i x, y = x ∨ y ∈ L := fun y hy => (List.mem_or_eq_of_mem_set hy).symm
  refine ⟨?_, ?_, ⟨fun y hy hyu => ?_, fun y hy hyu => ?_⟩, h.geR, h.geG⟩
  · rw [upd_ne _ _ _ _ h.ne, List.length_set]; exact h.cell
  · rw [upd_same, h.row]; rfl
  · rcases hmem y hy with rfl | hy
    · exact hfr.key h (hu hyu)
    · exact hfr.key h (h.keys.used y hy hyu)
  · rcases hmem y hy with rfl | hy
    · exact hz hyu
    · exact h.keys.zero y hy hyu
/-- What is where, while a hole moves on. -/
structure Rm (w z : World) (B r g t2 t7 seed : Nat) (L L' : List Pm) (many q i m : Nat) : Prop where
  tb : TbM z B r g seed L' many
  len : L'.length = L.length
  fr : TFr r g w z
  c2 : hp z t2 = some (.cells #[.pointer (some ⟨r, 0, none⟩)] 89)
  c7 : hp z t7 = some (.cells #[.int .i64 ((q + i) % L.length : Nat)] 3)
  jr : Jr (hm seed L.length) L.length L' (q + i)
  ks : (Go.Proofs.Ytbcmoikpmmjlkaa.ks (L'.set ((q + i) % L.length) zPm)).Perm (Go.Proofs.Ytbcmoikpmmjlkaa.ks (L.set (q % L.length) zPm))
  im : i < m
  um : (sl L' (q + m)).used = false
  far : ∀ x ∈ L', x.far ≤ L.length
set_option maxHeartbeats 1000000 in
/-- probe.Remove$1. -/
theorem s66 {w z : World} {B r g t2 t7 seed many q i m e : Nat} {L L' : List Pm} (h : Rm w z B r g t2 t7 seed L L' many q i m) (hl : L.length = 2 ^ e) (he : e ≤ 12) (hn : 8 ≤ L.length) (hmn : m < L.length) (h2w : w.heap.size ≤ t2) (h7w : w.heap.size ≤ t7) (hrw : r < w.heap.size) (hgw : g < w.heap.size)
    {R : Value → World → Prop}
    (hT : ∀ z' M, Rm w z' B r g t2 t7 seed L M many q (i + 1) m → R (.bool true) z')
    (hF : ∀ z' M, TFr r g w z' → TbM z' B r g seed M many → Tb (hm seed L.length) L.length M → M.length = L.length → (ks M).Perm (ks (L.set (q % L.length) zPm)) → hp z' t2 = some (.cells #[.pointer (some ⟨r, 0, none⟩)] 89) → R (.bool false) z') :
    F66 (.pointer (some ⟨t2, 0, none⟩)) (.pointer (some ⟨t7, 0, none⟩)) z R := by
  have hp2 : 2 ^ e ≤ 2 ^ 12 := Nat.pow_le_pow_right (by decide) he
  have hpl : (q + i) % L.length < L.length := Nat.mod_lt _ (by omega)
  unfold F66
  simp [h.c2, h.c7, -newP_some, -storeW_ptr, -zero_96, -Int.natCast_emod]
  refine c67 (s67 h.tb (by rw [h.len]; exact hl) (by omega) (p := (q + i) % L.length) (by omega) ?_)
  simp [h.c2, h.tb.cell, -newP_some, -storeW_ptr, -zero_96, -Int.natCast_emod]
  have hp' : ((q + i) % L.length + 1) % L'.length = (q + i + 1) % L'.length := by rw [h.len, Nat.add_mod, Nat.mod_mod, ← Nat.add_mod]
  rw [hp']
  refine ldSlot h.tb (by rw [h.len]; omega) (q + i + 1) ?_
  have htm := sl_mem (L := L') (by rw [h.len]; omega) (q + i + 1)
  have htf := h.far _ htm
  refine newL zero_96 fun r4 z1 b1 hq4 _ c4 => ?_
  refine st96 c4 ?_
  have c4 : hp (upd z1 r4 (.cells (encPm (sl L' (q + i + 1))).toArray 96)) r4 = some (.cells (encPm (sl L' (q + i + 1))).toArray 96) := by simp [c4]
  have b1 : Bel z (upd z1 r4 (.cells (encPm (sl L' (q + i + 1))).toArray 96)) := bu b1 hq4 _
  generalize upd z1 r4 (.cells (encPm (sl L' (q + i + 1))).toArray 96) = z2 at c4 b1 ⊢
  have tb2 := h.tb.bel b1
  have fr2 := h.fr.trans (.of_bel b1)
  have c22 := bg b1 h.c2
  have c72 := bg b1 h.c7
  have n2r : t2 ≠ r := by omega
  have n2g : t2 ≠ g := by omega
  have n7r : t7 ≠ r := by omega
  have n7g : t7 ≠ g := by omega
  have n27 : t2 ≠ t7 := by rintro rfl; rw [c22] at c72; injection c72 with c72; injection c72 with _ c72; cases c72
  have n4r : r4 ≠ r := by have := h.fr.size; omega
  have n4g : r4 ≠ g := by have := h.fr.size; omega
  have h4w : w.heap.size ≤ r4 := Nat.le_trans h.fr.size hq4
  have n42 : t2 ≠ r4 := by have := hp_lt h.c2; omega
  have n47 : t7 ≠ r4 := by have := hp_lt h.c7; omega
  have hs : ∀ p x, sl (L'.set ((q + i) % L.length) x) p = if p % L.length = (q + i) % L.length then x else sl L' p := fun p x => sl_set h.len (by omega)
  refine join_of fun J7 hJ7 => ?_
  have key7 : ∀ b, b = ((sl L' (q + i + 1)).used && decide (0 < (sl L' (q + i + 1)).far)) → J7 [.bool b] z2 := by
    intro b hb
    refine hJ7 _ _ ?_
    simp [-newP_some, -storeW_ptr, -zero_96, -Int.natCast_emod]
    refine ifB (fun hbt => ?_) (fun hbf => ?_)
    · rw [hbt] at hb
      have hb := hb.symm
      simp only [Bool.and_eq_true, decide_eq_true_eq] at hb
      have e6 : IntKind.i64.wrap (((sl L' (q + i + 1)).far : Int) - 1) = (((sl L' (q + i + 1)).far - 1 : Nat) : Int) := by rw [wrap_i64 (by omega) (by omega)]; omega
      simp [c4, encPm, -newP_some, -storeW_ptr, -zero_96, -Int.natCast_emod]
      rw [e6]
      refine stC (A := []) (c := encPm (sl L' (q + i + 1))) (j := 3) c4 (by simp) (by simp [encPm]) size_3 rfl rfl ?_
      rw [show (([] : List Value) ++ (encPm (sl L' (q + i + 1))).set 3 (.int .i64 (((sl L' (q + i + 1)).far - 1 : Nat) : Int))) = encPm { sl L' (q + i + 1) with far := (sl L' (q + i + 1)).far - 1 } from rfl]
      have hty : KeyM z2 B { sl L' (q + i + 1) with far := (sl L' (q + i + 1)).far - 1 } := by
        have := tb2.keys.used _ htm hb.1
        exact ⟨this.kc, this.byte, this.len⟩
      have hyu : ({ sl L' (q + i + 1) with far := (sl L' (q + i + 1)).far - 1 } : Pm).used = true := hb.1
      have hyk : ({ sl L' (q + i + 1) with far := (sl L' (q + i + 1)).far - 1 } : Pm).key = (sl L' (q + i + 1)).key := rfl
      have hyf : ({ sl L' (q + i + 1) with far := (sl L' (q + i + 1)).far - 1 } : Pm).far ≤ L.length := by dsimp only; omega
      have hjr := h.jr.step (by omega) hb.1 hb.2
      have hks := ks_shift h.len (by omega) (q + i) (y := { sl L' (q + i + 1) with far := (sl L' (q + i + 1)).far - 1 }) rfl rfl hb.1
      generalize ({ sl L' (q + i + 1) with far := (sl L' (q + i + 1)).far - 1 } : Pm) = y at *
      have tb3 := tb2.tmpE c4 (by decide) n4r n4g (.cells (encPm y).toArray 96)
      have fr3 := fr2.tmp h4w hrw (.cells (encPm y).toArray 96)
      have c23 : hp (upd z2 r4 (.cells (encPm y).toArray 96)) t2 = _ := (upd_ne _ _ _ _ n42).trans c22
      have c73 : hp (upd z2 r4 (.cells (encPm y).toArray 96)) t7 = _ := (upd_ne _ _ _ _ n47).trans c72
      have c43 : hp (upd z2 r4 (.cells (encPm y).toArray 96)) r4 = some (.cells (encPm y).toArray 96) := by rw [upd_same, c4]; rfl
      have hty := hty.tmpE c4 (by decide) (.cells (encPm y).toArray 96)
      generalize upd z2 r4 (.cells (encPm y).toArray 96) = z3 at tb3 fr3 c23 c73 c43 hty ⊢
      have hd := bd (br z3)
      have tb4 := tb3.bel hd
      have fr4 := fr3.trans (.of_bel hd)
      have c24 := bg hd c23
      have c74 := bg hd c73
      have c44 := bg hd c43
      have hty := hty.bel hd
      refine drawn' (St0 := fun x => hp x t2 = some (.cells #[.pointer (some ⟨r, 0, none⟩)] 89) ∧ hp x r = some (.cells #[.int .u64 (seed : Nat), .slice (some ⟨g, 0, none⟩) L'.length L'.length, .int .i64 (many : Nat)] 153) ∧ hp x t7 = some (.cells #[.int .i64 ((q + i) % L.length : Nat)] 3) ∧ hp x r4 = some (.cells (encPm y).toArray 96)) ⟨c24, tb4.cell, c74, c44⟩ fun St hS => ?_
      refine rdS (fun x hx => ((hS x).1 hx).1) (x := .pointer (some ⟨r, 0, none⟩)) rfl ?_
      simp only [pure_nil, fld_153_1]
      refine rdS (fun x hx => ((hS x).1 hx).2.1) (x := .slice (some ⟨g, 0, none⟩) L'.length L'.length) rfl ?_
      refine rdS (fun x hx => ((hS x).1 hx).2.2.1) (x := .int .i64 ((q + i) % L.length : Nat)) rfl ?_
      refine rdS (fun x hx => ((hS x).1 hx).2.2.2) (x := .agg (encPm y).toArray) rfl ?_
      refine stSlot tb4.row (by rw [h.len]; exact hpl) y ?_
      have tb5 := tb4.put (i := (q + i) % L.length) (x := y) (fun _ => hty) (fun hh => by rw [hyu] at hh; cases hh)
      have fr5 := fr4.trans (TFr.upd (r := r) (g := g) (b := g) z3.drew (.inr rfl) (.cells ((L'.set ((q + i) % L.length) y).flatMap encPm).toArray 96))
      have c25 : hp (upd z3.drew g (.cells ((L'.set ((q + i) % L.length) y).flatMap encPm).toArray 96)) t2 = _ := (upd_ne _ _ _ _ n2g).trans c24
      have c75 : hp (upd z3.drew g (.cells ((L'.set ((q + i) % L.length) y).flatMap encPm).toArray 96)) t7 = _ := (upd_ne _ _ _ _ n7g).trans c74
      generalize upd z3.drew g (.cells ((L'.set ((q + i) % L.length) y).flatMap encPm).toArray 96) = z5 at tb5 fr5 c25 c75 ⊢
      refine stC (A := []) (c := [.int .i64 ((q + i) % L.length : Nat)]) (j := 0) c75 rfl (by simp) size_3 rfl rfl ?_
      rw [show (([] : List Value) ++ [Value.int .i64 ((q + i) % L.length : Nat)].set 0 (.int .i64 ((q + i + 1) % L'.length : Nat))) = [Value.int .i64 ((q + i + 1) % L'.length : Nat)] from rfl]
      have hu0 : (sl L' (q + i + 1)).used = true := hb.1
      have him2 : i + 1 < m := by
        refine Nat.lt_of_le_of_ne h.im fun e => ?_
        have := h.um
        rw [← e, show q + (i + 1) = q + i + 1 from rfl, hu0] at this
        cases this
      refine hT _ (L'.set ((q + i) % L.length) y) ⟨tb5.tmpE c75 (by decide) n7r n7g _, by rw [List.length_set]; exact h.len, fr5.tmp h7w hrw _, by rw [upd_ne _ _ _ _ n27]; exact c25, by rw [upd_same, c75, h.len]; rfl, hjr, hks.trans h.ks, him2, ?_, fun x hx => ?_⟩
      · rw [hs, if_neg (fun e => by have := md_inj (by omega) (by omega) e; have := h.im; omega)]; exact h.um
      · rcases List.mem_or_eq_of_mem_set hx with hx | rfl
        · exact h.far x hx
        · exact hyf
    · rw [hbf] at hb
      have hb := hb.symm
      have hbz : (sl L' (q + i + 1)).used = false ∨ (sl L' (q + i + 1)).far = 0 := by
        simp only [Bool.and_eq_false_iff, decide_eq_false_iff_not] at hb
        rcases hb with hb | hb
        · exact .inl hb
        · exact .inr (by omega)
      have hd := bd (br z2)
      have tb4 := tb2.bel hd
      have fr4 := fr2.trans (.of_bel hd)
      have c24 := bg hd c22
      have c74 := bg hd c72
      refine drawn' (St0 := fun x => hp x t2 = some (.cells #[.pointer (some ⟨r, 0, none⟩)] 89) ∧ hp x r = some (.cells #[.int .u64 (seed : Nat), .slice (some ⟨g, 0, none⟩) L'.length L'.length, .int .i64 (many : Nat)] 153) ∧ hp x t7 = some (.cells #[.int .i64 ((q + i) % L.length : Nat)] 3)) ⟨c24, tb4.cell, c74⟩ fun St hS => ?_
      refine rdS (fun x hx => ((hS x).1 hx).1) (x := .pointer (some ⟨r, 0, none⟩)) rfl ?_
      simp only [pure_nil, fld_153_1]
      refine rdS (fun x hx => ((hS x).1 hx).2.1) (x := .slice (some ⟨g, 0, none⟩) L'.length L'.length) rfl ?_
      refine rdS (fun x hx => ((hS x).1 hx).2.2) (x := .int .i64 ((q + i) % L.length : Nat)) rfl ?_
      refine stSlot tb4.row (by rw [h.len]; exact hpl) zPm ?_
      exact hF _ (L'.set ((q + i) % L.length) zPm) (fr4.trans (TFr.upd (r := r) (g := g) (b := g) z2.drew (.inr rfl) _)) (tb4.put (fun hh => by cases hh) fun _ => rfl) (h.jr.done (by omega) hbz) (by rw [List.length_set]; exact h.len) h.ks (by rw [upd_ne _ _ _ _ n2g]; exact c24)
  simp [c4, encPm, -newP_some, -storeW_ptr, -zero_96, -Int.natCast_emod]
  refine ifB (fun hu => ?_) (fun hu => ?_)
  · exact key7 _ (by rw [hu, Bool.true_and])
  · exact key7 _ (by rw [hu, Bool.false_and])
end Go.Proofs.Ytbcmoikpmmjlkaa
