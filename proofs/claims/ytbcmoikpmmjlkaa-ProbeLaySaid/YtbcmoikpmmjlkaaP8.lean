/- Plans: the document's examples. -/
import Derived.Test.YtbcmoikpmmjlkaaP7
import Derived.Test.YtbcmoikpmmjlkaaG
namespace Go.Proofs.Ytbcmoikpmmjlkaa
open Go Eng
set_option maxRecDepth 100000
theorem rd_lit {α : Type} {k : Nat} {enc : α → List Value} (he : Enc k enc) {u : World} {g E : Nat} {cs : Array Value} {fr : Nat × Nat} {n c : Nat} (hg : hp u g = some (.cells cs E fr)) {l : List α} (hl : l.flatMap enc = cs.toList) (hn : l.length = n) :
    Rd u k enc (.slice (some ⟨g, 0, none⟩) n c) l := by
  subst hn
  refine ⟨_, _, rfl, fun i x hx => ⟨g, 0, rfl, cs, E, fr, hg, fun j y hy => ?_⟩⟩
  have := flatMap_at he hx hy
  rw [hl] at this
  simpa using this
theorem rd_nil {α : Type} (w : World) (k : Nat) (enc : α → List Value) : Rd w k enc (.slice none 0 0) ([] : List α) := ⟨none, 0, rfl, fun i x hx => by simp at hx⟩
/-- law25.wakes$1: a loc of segment 9. -/
theorem s60 {w : World} {o : Int} {R : Value → World → Prop} (hR : ∀ w', Bel w w' → R (.agg #[.int .u32 9, .int .u32 o]) w') : F60 (.int .u32 o) w R := by
  unfold F60
  simp
  refine readW_of ?_
  simp
  exact hR _ (bx' _ _)
/-- slices.Equal of steps. -/
theorem s61 {w : World} {v1 v2 : Value} {l1 l2 : List Sp} (h1 : Rd w 5 encSp v1 l1) (h2 : Rd w 5 encSp v2 l2) (hl : l1.length ≤ 1000000) {R : Value → World → Prop} (hR : ∀ w', Bel w w' → R (.bool (decide (l1 = l2))) w') : F61 v1 v2 w R := by
  obtain ⟨a1, c1, rfl⟩ := h1.form
  obtain ⟨a2, c2, rfl⟩ := h2.form
  unfold F61
  simp
  by_cases hn : l1.length = l2.length
  · simp [hn]
    refine ⟨fun s u => ∃ i : Nat, s = [.int .i64 (i : Nat)] ∧ i ≤ l2.length ∧ Bel w u ∧ l1.take i = l2.take i, fun s _ => (l2.length + 1 - n0 s 0).toNat, ⟨0, rfl, by omega, br w, rfl⟩, ?_⟩
    rintro s u ⟨i, rfl, hi, hu, he⟩
    simp
    refine ifD (fun h3 => ?_) (fun h3 => ?_)
    · have h3' : i < l1.length := by omega
      refine drawn' (St0 := Bel u) (bd (br u)) fun St hS => ?_
      obtain ⟨b, o, c3, ⟨off, ho, hsl⟩, hat⟩ := (h1.bel hu).at (List.getElem?_eq_getElem h3')
      injection hsl with hsl _ _
      subst hsl
      obtain ⟨b', o', c4, ⟨off', ho', hsl⟩, hat'⟩ := (h2.bel hu).at (List.getElem?_eq_getElem h3)
      injection hsl with hsl _ _
      subst hsl
      have e6 : IntKind.i64.wrap ((i : Int) + 1) = ((i + 1 : Nat) : Int) := i64_succ (by omega)
      have ht1 := List.take_succ_eq_append_getElem h3'
      have ht2 := List.take_succ_eq_append_getElem h3
      have hne : l1[i] ≠ l2[i] → l1 ≠ l2 := fun h e => h (by simp [e])
      rw [idxR (T := 67) (k := 5) (by kernel_rfl) h3, ← ho]
      generalize l1[i] = x at hat ht1 hne
      generalize l2[i] = y at hat' ht2 hne
      obtain ⟨xi, ⟨xt, xu⟩, ⟨xp, xq⟩⟩ := x
      obtain ⟨yi, ⟨yt, yu⟩, ⟨yp, yq⟩⟩ := y
      refine ⟨.agg (encSp ⟨xi, (xt, xu), (xp, xq)⟩).toArray, fun a ha => ?_, ?_⟩
      · have := (hat.bel ((hS a).1 ha)).cells0 5 (by decide) (by simp [encSp])
        simp only [loadW_ptr, shape_75, ldSh_agg, this]; rfl
      rw [idxR (T := 67) (k := 5) (by kernel_rfl) h3, ← ho']
      refine ⟨.agg (encSp ⟨yi, (yt, yu), (yp, yq)⟩).toArray, fun a ha => ?_, ?_⟩
      · have := (hat'.bel ((hS a).1 ha)).cells0 5 (by decide) (by simp [encSp])
        simp only [loadW_ptr, shape_75, ldSh_agg, this]; rfl
      refine (neq_75 _ _ _ _ _ _ _ _ _ _ _).2 ?_
      refine ifB (fun h4 => ?_) (fun h4 => ?_)
      · have h4 : ¬ ((xi : Int) = yi ∧ xt = yt ∧ xu = yu ∧ xp = yp ∧ xq = yq) := by
          intro hh; rw [decide_eq_true hh] at h4; cases h4
        have := hR u.drew (bd hu)
        rw [decide_eq_false (hne fun e => h4 (by injection e with e1 e2 e3; injection e2 with e2 e4; injection e3 with e3 e5; exact ⟨by omega, e2, e4, e3, e5⟩))] at this
        exact this
      · have h4 : (xi : Int) = yi ∧ xt = yt ∧ xu = yu ∧ xp = yp ∧ xq = yq := by
          rw [Bool.not_eq_false'] at h4; exact of_decide_eq_true h4
        obtain ⟨e1, rfl, rfl, rfl, rfl⟩ := h4
        obtain rfl : xi = yi := by omega
        rw [e6]
        refine ⟨⟨i + 1, rfl, h3, bd hu, by rw [ht1, ht2, he]⟩, by simp [n0]; omega⟩
    · obtain rfl : i = l2.length := by omega
      rw [List.take_length, ← hn, List.take_length] at he
      have := hR u hu
      rw [decide_eq_true he] at this
      exact this
  · have hne : ¬ ((l1.length : Int) = l2.length) := by omega
    simp [hne]
    have := hR w (br w)
    rw [decide_eq_false (fun e => hn (by rw [e]))] at this
    exact this
/-- slices.Equal of seals. -/
theorem s40 {w : World} {v1 v2 : Value} {l1 l2 : List Sl} (h1 : Rd w 5 encSl v1 l1) (h2 : Rd w 5 encSl v2 l2) (hl : l1.length ≤ 1000000) {R : Value → World → Prop} (hR : ∀ w', Bel w w' → R (.bool (decide (l1 = l2))) w') : F40 v1 v2 w R := by
  obtain ⟨a1, c1, rfl⟩ := h1.form
  obtain ⟨a2, c2, rfl⟩ := h2.form
  unfold F40
  simp
  by_cases hn : l1.length = l2.length
  · simp [hn]
    refine ⟨fun s u => ∃ i : Nat, s = [.int .i64 (i : Nat)] ∧ i ≤ l2.length ∧ Bel w u ∧ l1.take i = l2.take i, fun s _ => (l2.length + 1 - n0 s 0).toNat, ⟨0, rfl, by omega, br w, rfl⟩, ?_⟩
    rintro s u ⟨i, rfl, hi, hu, he⟩
    simp
    refine ifD (fun h3 => ?_) (fun h3 => ?_)
    · have h3' : i < l1.length := by omega
      refine drawn' (St0 := Bel u) (bd (br u)) fun St hS => ?_
      obtain ⟨b, o, c3, ⟨off, ho, hsl⟩, hat⟩ := (h1.bel hu).at (List.getElem?_eq_getElem h3')
      injection hsl with hsl _ _
      subst hsl
      obtain ⟨b', o', c4, ⟨off', ho', hsl⟩, hat'⟩ := (h2.bel hu).at (List.getElem?_eq_getElem h3)
      injection hsl with hsl _ _
      subst hsl
      have e6 : IntKind.i64.wrap ((i : Int) + 1) = ((i + 1 : Nat) : Int) := i64_succ (by omega)
      have ht1 := List.take_succ_eq_append_getElem h3'
      have ht2 := List.take_succ_eq_append_getElem h3
      have hne : l1[i] ≠ l2[i] → l1 ≠ l2 := fun h e => h (by simp [e])
      rw [idxR (T := 68) (k := 5) (by kernel_rfl) h3, ← ho]
      generalize l1[i] = x at hat ht1 hne
      generalize l2[i] = y at hat' ht2 hne
      obtain ⟨xi, xt, xu, xp, xq⟩ := x
      obtain ⟨yi, yt, yu, yp, yq⟩ := y
      refine ⟨.agg (encSl ⟨xi, xt, xu, xp, xq⟩).toArray, fun a ha => ?_, ?_⟩
      · have := (hat.bel ((hS a).1 ha)).cells0 5 (by decide) (by simp [encSl])
        simp only [loadW_ptr, shape_116, ldSh_agg, this]; rfl
      rw [idxR (T := 68) (k := 5) (by kernel_rfl) h3, ← ho']
      refine ⟨.agg (encSl ⟨yi, yt, yu, yp, yq⟩).toArray, fun a ha => ?_, ?_⟩
      · have := (hat'.bel ((hS a).1 ha)).cells0 5 (by decide) (by simp [encSl])
        simp only [loadW_ptr, shape_116, ldSh_agg, this]; rfl
      refine (neq_116 _ _ _ _ _ _ _ _ _ _ _).2 ?_
      refine ifB (fun h4 => ?_) (fun h4 => ?_)
      · have h4 : ¬ (xi = yi ∧ xt = yt ∧ xu = yu ∧ xp = yp ∧ xq = yq) := by
          intro hh; rw [decide_eq_true hh] at h4; cases h4
        have := hR u.drew (bd hu)
        rw [decide_eq_false (hne fun e => h4 (by injection e with e1 e2 e3 e4 e5; exact ⟨e1, e2, e3, e4, e5⟩))] at this
        exact this
      · have h4 : xi = yi ∧ xt = yt ∧ xu = yu ∧ xp = yp ∧ xq = yq := by
          rw [Bool.not_eq_false'] at h4; exact of_decide_eq_true h4
        obtain ⟨rfl, rfl, rfl, rfl, rfl⟩ := h4
        rw [e6]
        refine ⟨⟨i + 1, rfl, h3, bd hu, by rw [ht1, ht2, he]⟩, by simp [n0]; omega⟩
    · obtain rfl : i = l2.length := by omega
      rw [List.take_length, ← hn, List.take_length] at he
      have := hR u hu
      rw [decide_eq_true he] at this
      exact this
  · have hne : ¬ ((l1.length : Int) = l2.length) := by omega
    simp [hne]
    have := hR w (br w)
    rw [decide_eq_false (fun e => hn (by rw [e]))] at this
    exact this
/-- How many bytes seals tell. -/
def bytesOf (l : List Sl) : Int := (l.map Sl.size).sum
/-- plan.Bytes. -/
theorem s26 {w : World} {sv lv : Value} {l : List Sl} (h : Rd w 5 encSl lv l) (hl : l.length ≤ 1000000) (hb : ∀ x ∈ l, 0 ≤ x.size ∧ x.size ≤ 4294967295) {R : Value → World → Prop} (hR : ∀ w', Bel w w' → R (.int .i64 (bytesOf l)) w') : F26 (.agg #[sv, lv]) w R := by
  obtain ⟨a, c, rfl⟩ := h.form
  unfold F26
  simp
  have hx := bx' w [.cells #[sv, .slice a l.length c] 70]
  refine ⟨fun s u => ∃ i : Nat, s = [.int .i64 (bytesOf (l.take i)), .int .i64 (i : Nat)] ∧ i ≤ l.length ∧ Bel w u, fun s _ => (l.length + 1 - n0 s 1).toNat, ⟨0, rfl, by omega, hx⟩, ?_⟩
  rintro s u ⟨i, rfl, hi, hu⟩
  simp
  refine ifD (fun h1 => ?_) (fun h1 => ?_)
  · obtain ⟨b, o, c2, ⟨off, ho, hsl⟩, hat⟩ := (h.bel hu).at (List.getElem?_eq_getElem h1)
    injection hsl with hsl _ _
    subst hsl
    have ht := List.take_succ_eq_append_getElem h1
    have hbx := hb _ (List.getElem_mem h1)
    have hsum : ∀ j, j ≤ l.length → 0 ≤ bytesOf (l.take j) ∧ bytesOf (l.take j) ≤ 4294967295 * (j : Int) := by
      intro j
      induction j with
      | zero => intro _; simp [bytesOf]
      | succ j ih =>
        intro hj
        have hjx := hb _ (List.getElem_mem (show j < l.length by omega))
        have := ih (by omega)
        rw [List.take_succ_eq_append_getElem (by omega)]
        unfold bytesOf at this ⊢
        rw [List.map_append, List.sum_append]
        simp only [List.map_cons, List.map_nil, List.sum_cons, List.sum_nil]
        omega
    have hs1 := hsum i hi
    have hs2 := hsum (i + 1) h1
    have hstep : bytesOf (l.take (i + 1)) = bytesOf (l.take i) + l[i].size := by
      rw [ht]; unfold bytesOf; rw [List.map_append, List.sum_append]; simp
    rw [idxR (T := 68) (k := 5) (by kernel_rfl) h1, ← ho]
    generalize l[i] = x at hat hbx hstep
    simp [hat.cells0, encSl]
    have e6 : IntKind.i64.wrap ((i : Int) + 1) = ((i + 1 : Nat) : Int) := i64_succ (by omega)
    have e7 : IntKind.i64.wrap (bytesOf (l.take i) + IntKind.i64.wrap x.size) = bytesOf (l.take (i + 1)) := by
      rw [wrap_i64 (n := x.size) (by omega) (by omega), ← hstep, wrap_i64 (by omega) (by omega)]
    rw [e6, e7]
    exact ⟨⟨i + 1, ⟨rfl, rfl⟩, h1, bx hu _⟩, by simp [n0]; omega⟩
  · obtain rfl : i = l.length := by omega
    rw [List.take_length]
    exact hR u hu
/-- The document's items. -/
def fiveI : List Itm := [⟨[97], 1, 1, 30⟩, ⟨[97], 2, 1, 30⟩, ⟨[98], 3, 1, 30⟩, ⟨[97], 4, 2, 30⟩, ⟨[98], 5, 1, 30⟩]
def fiveM (a b : Nat) : List Im := [⟨some ⟨a, 0, none⟩, 1, ⟨[97], 1, 1, 30⟩⟩, ⟨some ⟨a, 0, none⟩, 1, ⟨[97], 2, 1, 30⟩⟩, ⟨some ⟨b, 0, none⟩, 1, ⟨[98], 3, 1, 30⟩⟩, ⟨some ⟨a, 0, none⟩, 1, ⟨[97], 4, 2, 30⟩⟩, ⟨some ⟨b, 0, none⟩, 1, ⟨[98], 5, 1, 30⟩⟩]
theorem fiveM_it (a b : Nat) : (fiveM a b).map Im.it = fiveI := rfl
/-- law25.five. -/
theorem s25 {w : World} {R : Value → World → Prop} (hR : ∀ w' g a b, Bel w w' → w.heap.size ≤ g → hp w' g = some (.cells ((fiveM a b).flatMap encIm).toArray 79 (0, 0)) → Bs w' (.slice (some ⟨a, 0, none⟩) 1 1) [97] → Bs w' (.slice (some ⟨b, 0, none⟩) 1 1) [98] → R (.slice (some ⟨g, 0, none⟩) 5 5) w') : F25 w R := by
  unfold F25
  simp
  refine conv_lit (hp_new w _) fun fr => ?_
  have hb0 : Bel w (upd (ext w [.cells #[.int .u8 97] 5]) w.heap.size (.cells #[.int .u8 97] 5 fr)) := bu (bx' w _) (Nat.le_refl _) _
  have hbs : Bs (upd (ext w [.cells #[.int .u8 97] 5]) w.heap.size (.cells #[.int .u8 97] 5 fr)) (.slice (some ⟨w.heap.size, 0, none⟩) 1 1) [97] := ⟨_, _, _, rfl, by simp, At.of (cs := #[.int .u8 97]) (E := 5) (fr := fr) (by rw [upd_same, hp_new]; rfl)⟩
  generalize upd (ext w [.cells #[.int .u8 97] 5]) w.heap.size (.cells #[.int .u8 97] 5 fr) = v0 at hb0 hbs ⊢
  refine conv_lit (hp_new v0 _) fun fr => ?_
  have hb1 : Bel v0 (upd (ext v0 [.cells #[.int .u8 98] 5]) v0.heap.size (.cells #[.int .u8 98] 5 fr)) := bu (bx' v0 _) (Nat.le_refl _) _
  have hbs1 : Bs (upd (ext v0 [.cells #[.int .u8 98] 5]) v0.heap.size (.cells #[.int .u8 98] 5 fr)) (.slice (some ⟨v0.heap.size, 0, none⟩) 1 1) [98] := ⟨_, _, _, rfl, by simp, At.of (cs := #[.int .u8 98]) (E := 5) (fr := fr) (by rw [upd_same, hp_new]; rfl)⟩
  generalize upd (ext v0 [.cells #[.int .u8 98] 5]) v0.heap.size (.cells #[.int .u8 98] 5 fr) = v1 at hb1 hbs1 ⊢
  have hle := hb0.size
  have hle1 := hb1.size
  simp
  have hx := bx' v1 [.cells ((fiveM w.heap.size v0.heap.size).flatMap encIm).toArray 79]
  exact hR _ v1.heap.size w.heap.size v0.heap.size (bt (bt hb0 hb1) hx) (by omega) (hp_new v1 _) (hbs.bel (bt hb1 hx)) (hbs1.bel hx)
theorem five_items {w : World} {g a b : Nat} {fr : Nat × Nat} (h : hp w g = some (.cells ((fiveM a b).flatMap encIm).toArray 79 fr)) (ha : Bs w (.slice (some ⟨a, 0, none⟩) 1 1) [97]) (hb : Bs w (.slice (some ⟨b, 0, none⟩) 1 1) [98]) : Items w (.slice (some ⟨g, 0, none⟩) 5 5) (fiveM a b) := by
  refine ⟨rd_lit encIm_ok h (by simp) rfl, ?_, ?_⟩
  · intro x hx _
    simp [fiveM] at hx
    rcases hx with rfl | rfl | rfl | rfl | rfl <;> first | exact ha | exact hb
  · intro x hx c hc
    simp [fiveM] at hx
    rcases hx with rfl | rfl | rfl | rfl | rfl <;> · simp at hc; omega
theorem five_a : planOf fiveI [5] 4096 9 = ([⟨4, (9, 16), (0, 0)⟩], [⟨9, 46, 1, 5, 5⟩], 0) := by decide +kernel
theorem five_b : planOf fiveI [1, 5] 4096 9 = ([⟨0, (9, 16), (0, 0)⟩, ⟨3, (9, 46), (9, 16)⟩, ⟨4, (9, 76), (0, 0)⟩], [⟨9, 106, 3, 1, 5⟩], 0) := by decide +kernel
theorem five_c : planOf fiveI [] 4096 9 = ([], [], 0) := by decide +kernel
/-- law25.wakes. -/
theorem s22 {w : World} {R : Value → World → Prop} (hR : ∀ w', Bel w w' → R (.bool true) w') : F22 w R := by
  unfold F22
  refine c25 (s25 fun w1 g a b b1 hg hbl hba hbb => ?_)
  simp
  have x1 := bx' w1 [.cells #[.int .u64 5] 35]
  have i1 := (five_items hbl hba hbb).bel x1
  refine c21 (s21 (at_ := [5]) i1 (rd_lit encU_ok (hp_ext_at (i := 0) rfl) rfl rfl) (by simp [fiveM]) (by decide) fun w2 sa la b2 r1 r2 => ?_)
  rw [fiveM_it, five_a] at r1 r2 ⊢
  have b2 := bt b1 (bt x1 b2)
  dsimp only at r1 r2 ⊢
  obtain ⟨sa, ca, rfl⟩ := r1.form
  obtain ⟨la, da, rfl⟩ := r2.form
  simp
  have h1 := hp_ext_at (w := w2) (L := [.cells #[.slice sa 1 ca, .slice la 1 da] 70]) (i := 0) rfl
  rw [Nat.add_zero] at h1
  have x2 := bx' w2 [.cells #[.slice sa 1 ca, .slice la 1 da] 70]
  have b3 := bt b2 x2
  have r1 := r1.bel x2
  generalize hq1 : w2.heap.size = q1 at h1 ⊢
  dsimp only [List.length_cons, List.length_nil] at r1 h1 ⊢
  generalize ext w2 [.cells #[.slice sa 1 ca, .slice la 1 da] 70] = w3 at h1 b3 r1 ⊢
  clear x2 b2 r2 x1 i1 hbl hba hbb hg b1
  refine c25 (s25 fun w4 g a b b4 hg hbl hba hbb => ?_)
  have x1 := bx' w4 [.cells #[.int .u64 1, .int .u64 5] 35]
  have i1 := (five_items hbl hba hbb).bel x1
  refine c21 (s21 (at_ := [1, 5]) i1 (rd_lit encU_ok (hp_ext_at (i := 0) rfl) rfl rfl) (by simp [fiveM]) (by decide) fun w5 sb lb b5 p1 p2 => ?_)
  rw [fiveM_it, five_b] at p1 p2 ⊢
  have b5 := bt b4 (bt x1 b5)
  dsimp only at p1 p2 ⊢
  obtain ⟨sb, cb, rfl⟩ := p1.form
  obtain ⟨lb, db, rfl⟩ := p2.form
  simp
  have h2 := hp_ext_at (w := w5) (L := [.cells #[.slice sb 3 cb, .slice lb 1 db] 70]) (i := 0) rfl
  rw [Nat.add_zero] at h2
  have x2 := bx' w5 [.cells #[.slice sb 3 cb, .slice lb 1 db] 70]
  have b6 := bt b5 x2
  have h1 := bg b6 h1
  have r1 := r1.bel b6
  have b6 := bt b3 b6
  have p1 := p1.bel x2
  have p2 := p2.bel x2
  generalize hq2 : w5.heap.size = q2 at h2 ⊢
  dsimp only [List.length_cons, List.length_nil] at p1 p2 h2 ⊢
  generalize ext w5 [.cells #[.slice sb 3 cb, .slice lb 1 db] 70] = w6 at h1 h2 b6 r1 p1 p2 ⊢
  clear x2 b5 x1 i1 hbl hba hbb hg b4 b3
  refine c25 (s25 fun w7 g a b b7 hg hbl hba hbb => ?_)
  have i1 := five_items hbl hba hbb
  refine c21 (s21 (at_ := []) i1 (rd_nil _ _ _) (by simp [fiveM]) (by decide) fun w8 sc lc b8 o1 o2 => ?_)
  rw [fiveM_it, five_c] at o1 o2 ⊢
  have b8 := bt b7 b8
  dsimp only at o1 o2 ⊢
  obtain ⟨sc, cc, rfl⟩ := o1.form
  obtain ⟨lc, dc, rfl⟩ := o2.form
  simp
  have x3 : Bel w8 (ext w8.drew [.cells #[.slice sc 0 cc, .slice lc 0 dc] 70]) := bx (bd (br w8)) _
  have h3 := hp_ext_at (w := w8.drew) (L := [.cells #[.slice sc 0 cc, .slice lc 0 dc] 70]) (i := 0) rfl
  rw [Nat.add_zero, show w8.drew.heap.size = w8.heap.size from rfl] at h3
  have b9 := bt b8 x3
  have h1 := bg b9 h1
  have h2 := bg b9 h2
  have r1 := r1.bel b9
  have p1 := p1.bel b9
  have p2 := p2.bel b9
  have b9 := bt b6 b9
  generalize w8.heap.size = q3 at h3 ⊢
  generalize ext w8.drew [.cells #[.slice sc 0 cc, .slice lc 0 dc] 70] = v at h1 h2 h3 r1 p1 p2 b9 ⊢
  refine drawn' (St0 := Bel v) (br v) fun St hS => ?_
  have hSu := (hS v).2 (br v)
  have T : ∀ {x}, Bel v x → St x := fun h => (hS _).2 h
  rw [readP_iff (fun x hx => bg ((hS x).1 hx) h1) hSu]
  simp
  refine c60 (s60 fun y1 k1 => ⟨T k1, ?_⟩)
  simp
  have x4 := bx' y1 [.cells #[.int .i64 4, .int .u32 9, .int .u32 16, .int .u32 0, .int .u32 0] 75]
  refine ⟨T (bt k1 x4), ?_⟩
  refine c61 (s61 (r1.bel (bt k1 x4)) (l2 := [⟨4, (9, 16), (0, 0)⟩]) (rd_lit encSp_ok (hp_ext_at (i := 0) rfl) rfl rfl) (by decide) fun y2 k2 => ?_)
  have k2 := bt (bt k1 x4) k2
  refine ⟨T k2, ?_⟩
  rw [decide_eq_true rfl]
  refine (ifV_true _ _).2 ?_
  rw [readP_iff (fun x hx => bg ((hS x).1 hx) h2) hSu]
  simp
  refine c60 (s60 fun y3 k3 => ⟨T (bt k2 k3), ?_⟩)
  have k3 := bt k2 k3
  simp
  refine c60 (s60 fun y4 k4 => ⟨T (bt k3 k4), ?_⟩)
  have k4 := bt k3 k4
  refine c60 (s60 fun y5 k5 => ⟨T (bt k4 k5), ?_⟩)
  have k5 := bt k4 k5
  simp
  refine c60 (s60 fun y6 k6 => ⟨T (bt k5 k6), ?_⟩)
  have k6 := bt k5 k6
  simp
  have x5 := bx' y6 [.cells #[.int .i64 0, .int .u32 9, .int .u32 16, .int .u32 0, .int .u32 0, .int .i64 3, .int .u32 9, .int .u32 46, .int .u32 9, .int .u32 16, .int .i64 4, .int .u32 9, .int .u32 76, .int .u32 0, .int .u32 0] 75]
  refine ⟨T (bt k6 x5), ?_⟩
  refine c61 (s61 (p1.bel (bt k6 x5)) (l2 := [⟨0, (9, 16), (0, 0)⟩, ⟨3, (9, 46), (9, 16)⟩, ⟨4, (9, 76), (0, 0)⟩]) (rd_lit encSp_ok (hp_ext_at (i := 0) rfl) rfl rfl) (by decide) fun y7 k7 => ?_)
  have k7 := bt (bt k6 x5) k7
  refine ⟨T k7, ?_⟩
  rw [decide_eq_true rfl]
  refine (ifV_true _ _).2 ?_
  rw [readP_iff (fun x hx => bg ((hS x).1 hx) h2) hSu]
  simp
  have x6 := bx' y7 [.cells #[.int .u32 9, .int .u32 106, .int .u32 3, .int .u64 1, .int .u64 5] 116]
  refine ⟨T (bt k7 x6), ?_⟩
  refine c40 (s40 (p2.bel (bt k7 x6)) (l2 := [⟨9, 106, 3, 1, 5⟩]) (rd_lit encSl_ok (hp_ext_at (i := 0) rfl) rfl rfl) (by decide) fun y8 k8 => ?_)
  have k8 := bt (bt k7 x6) k8
  refine ⟨T k8, ?_⟩
  rw [decide_eq_true rfl]
  refine (ifV_true _ _).2 ?_
  rw [readP_iff (fun x hx => bg ((hS x).1 hx) h3) hSu]
  simp
  rw [readP_iff (fun x hx => bg ((hS x).1 hx) h3) hSu]
  simp
  exact hR _ (bt b9 k8)
end Go.Proofs.Ytbcmoikpmmjlkaa
