/- Law 25: PlanKnown answers true. -/
import Derived.Test.YtbcmoikpmmjlkaaP8
namespace Go.Proofs.Ytbcmoikpmmjlkaa
open Go Eng
set_option maxRecDepth 100000
theorem mk65 {w : World} {K : Value → World → Prop} (hK : K (.slice (some ⟨w.heap.size, 0, none⟩) 65 65) (ext w [.cells (List.replicate 65 (.int .u8 0)).toArray 5])) :
    S Pg (Instr.makeSlice 36 (.int .i64 65) (.int .i64 65)) w K := by
  have hinfo : (Pg.info? 5).map (fun i => (i.size, i.bytes, i.zero)) = some (1, 1, some (.int .u8 0)) := by kernel_rfl
  obtain ⟨i, hi, he⟩ := Option.map_eq_some_iff.1 hinfo
  injection he with e1 he
  injection he with e2 e3
  have := run_makeSlice (P := Pg) w 36 5 i (.int .u8 0) Try.underlying36 hi e3 .i64 .i64 65 65 (by omega) (by omega) (by rw [e1]; decide) (by rw [e2]; decide) (by omega)
  refine (S_of this).2 ?_
  rw [e1]
  have hc : madeCells (Value.int .u8 0).cells (Int.toNat 65 * 1) = (List.replicate 65 (.int .u8 0)).toArray := by
    apply Array.ext'
    show (madeCells #[.int .u8 0] 65).toList = _
    rw [toList_madeCells_one]
  rw [hc, ← ext_one]
  exact hK
/-- What may not be. -/
def badM (a z : Nat) : List Im := [⟨none, 0, ⟨[], 1, 1, 30⟩⟩, ⟨some ⟨z, 0, none⟩, 65, ⟨List.replicate 65 0, 1, 1, 30⟩⟩, ⟨some ⟨a, 0, none⟩, 1, ⟨[107], 0, 1, 30⟩⟩, ⟨some ⟨a, 0, none⟩, 1, ⟨[107], 1099511627777, 1, 30⟩⟩,
  ⟨some ⟨a, 0, none⟩, 1, ⟨[107], 1, 0, 30⟩⟩, ⟨some ⟨a, 0, none⟩, 1, ⟨[107], 1, 3, 30⟩⟩, ⟨some ⟨a, 0, none⟩, 1, ⟨[107], 1, 1, 24⟩⟩, ⟨some ⟨a, 0, none⟩, 1, ⟨[107], 1, 1, 1114⟩⟩]
theorem badM_length (a z : Nat) : (badM a z).length = 8 := rfl
theorem bad_may (a z : Nat) : ∀ x ∈ badM a z, mayI 0 [x.it] = false := by
  intro x hx
  simp only [badM, List.mem_cons, List.not_mem_nil, or_false] at hx
  rcases hx with rfl | rfl | rfl | rfl | rfl | rfl | rfl | rfl <;> (dsimp only; decide +kernel)
theorem build84 (a z : Nat) (K : Value → Prop) : pureP Pg (Instr.build 84 #[(0, .agg #[.slice none 0 0, .int .u64 1, .int .i64 1, .int .i64 30]), (1, .agg #[.slice (some ⟨z, 0, none⟩) 65 65, .int .u64 1, .int .i64 1, .int .i64 30]), (2, .agg #[.slice (some ⟨a, 0, none⟩) 1 1, .int .u64 0, .int .i64 1, .int .i64 30]), (3, .agg #[.slice (some ⟨a, 0, none⟩) 1 1, .int .u64 1099511627777, .int .i64 1, .int .i64 30]), (4, .agg #[.slice (some ⟨a, 0, none⟩) 1 1, .int .u64 1, .int .i64 0, .int .i64 30]), (5, .agg #[.slice (some ⟨a, 0, none⟩) 1 1, .int .u64 1, .int .i64 3, .int .i64 30]), (6, .agg #[.slice (some ⟨a, 0, none⟩) 1 1, .int .u64 1, .int .i64 1, .int .i64 24]), (7, .agg #[.slice (some ⟨a, 0, none⟩) 1 1, .int .u64 1, .int .i64 1, .int .i64 1114])]) K ↔ K (.agg ((badM a z).flatMap encIm).toArray) := pureP_of fun w => by
  simp [go_sem, Instr.build, Instr.fill, badM, encIm]
theorem index84 (a z : Nat) {i : Nat} {x : Im} (h : (badM a z)[i]? = some x) (K : Value → Prop) : pureP Pg (Instr.index 84 (.agg ((badM a z).flatMap encIm).toArray) (.int .i64 (i : Nat))) K ↔ K (.agg (encIm x).toArray) := pureP_of fun w => by
  have hi := (List.getElem?_eq_some_iff.1 h).1
  rw [badM_length] at hi
  have : i = 0 ∨ i = 1 ∨ i = 2 ∨ i = 3 ∨ i = 4 ∨ i = 5 ∨ i = 6 ∨ i = 7 := by omega
  rcases this with rfl | rfl | rfl | rfl | rfl | rfl | rfl | rfl <;> · simp only [badM] at h; injection h with h; subst h; simp [go_sem, Instr.index, badM, encIm]
/-- plan.Of, its slices in full. -/
theorem k21 {w : World} {v av : Value} {ims : List Im} {at_ : List Int} {limit first : Int} (h : Items w v ims) (ha : Rd w 1 encU av at_) (hl : ims.length ≤ 100000) (hl2 : at_.length ≤ 100000) {P : List Sp × List Sl × Int} (hP : planOf (ims.map Im.it) at_ limit first = P) {R : Value → World → Prop}
    (hR : ∀ w' sa sc la lc, Bel w w' → Rd w' 5 encSp (.slice sa P.1.length sc) P.1 → Rd w' 5 encSl (.slice la P.2.1.length lc) P.2.1 → R (.tuple #[.agg #[.slice sa P.1.length sc, .slice la P.2.1.length lc], .int .i64 P.2.2]) w') :
    F21 v av (.int .i64 limit) (.int .u32 first) w R := by
  refine s21 h ha hl hl2 fun w' sv lv b h1 h2 => ?_
  rw [hP] at h1 h2 ⊢
  obtain ⟨sa, sc, rfl⟩ := h1.form
  obtain ⟨la, lc, rfl⟩ := h2.form
  exact hR w' sa sc la lc b h1 h2
theorem items_nil (w : World) : Items w (.slice none 0 0) [] := ⟨rd_nil _ _ _, fun x hx => by simp at hx, fun x hx => by simp at hx⟩
/-- The document's items, the second one's number as the first one's. -/
def twoM (a b : Nat) : List Im := [⟨some ⟨a, 0, none⟩, 1, ⟨[97], 1, 1, 30⟩⟩, ⟨some ⟨a, 0, none⟩, 1, ⟨[97], 1, 1, 30⟩⟩, ⟨some ⟨b, 0, none⟩, 1, ⟨[98], 3, 1, 30⟩⟩, ⟨some ⟨a, 0, none⟩, 1, ⟨[97], 4, 2, 30⟩⟩, ⟨some ⟨b, 0, none⟩, 1, ⟨[98], 5, 1, 30⟩⟩]
theorem two_items {w : World} {g a b : Nat} {fr : Nat × Nat} (h : hp w g = some (.cells ((twoM a b).flatMap encIm).toArray 79 fr)) (ha : Bs w (.slice (some ⟨a, 0, none⟩) 1 1) [97]) (hb : Bs w (.slice (some ⟨b, 0, none⟩) 1 1) [98]) : Items w (.slice (some ⟨g, 0, none⟩) 5 5) (twoM a b) := by
  refine ⟨rd_lit encIm_ok h (by simp) rfl, ?_, ?_⟩
  · intro x hx _
    simp [twoM] at hx
    rcases hx with rfl | rfl | rfl | rfl <;> first | exact ha | exact hb
  · intro x hx c hc
    simp [twoM] at hx
    rcases hx with rfl | rfl | rfl | rfl <;> · simp at hc; omega
theorem two_bad {a b : Nat} : planOf ((twoM a b).map Im.it) [] 4096 1 = ([], [], 1) := by
  show planOf [⟨[97], 1, 1, 30⟩, ⟨[97], 1, 1, 30⟩, ⟨[98], 3, 1, 30⟩, ⟨[97], 4, 2, 30⟩, ⟨[98], 5, 1, 30⟩] [] 4096 1 = ([], [], 1)
  decide +kernel
theorem plan_bad {im : Im} (h : mayI 0 [im.it] = false) : planOf ([im].map Im.it) [] 4096 1 = ([], [], 1) := by
  unfold planOf
  rw [if_pos (.inl h)]
set_option maxHeartbeats 2000000 in
/-- Law 25: PlanKnown. -/
theorem s7 {w : World} {R : Value → World → Prop} (hR : ∀ w', Bel w w' → R (.bool true) w') : F7 w R := by
  unfold F7
  simp
  refine conv_lit (hp_new w _) fun fr => ?_
  have hb0 : Bel w (upd (ext w [.cells #[.int .u8 107] 5]) w.heap.size (.cells #[.int .u8 107] 5 fr)) := bu (bx' w _) (Nat.le_refl _) _
  have hbs : Bs (upd (ext w [.cells #[.int .u8 107] 5]) w.heap.size (.cells #[.int .u8 107] 5 fr)) (.slice (some ⟨w.heap.size, 0, none⟩) 1 1) [107] := ⟨_, _, _, rfl, by simp, At.of (cs := #[.int .u8 107]) (E := 5) (fr := fr) (by rw [upd_same, hp_new]; rfl)⟩
  generalize upd (ext w [.cells #[.int .u8 107] 5]) w.heap.size (.cells #[.int .u8 107] 5 fr) = v0 at hb0 hbs ⊢
  generalize w.heap.size = a at hbs ⊢
  simp
  refine mk65 ?_
  have hx := bx' v0 [.cells (List.replicate 65 (.int .u8 0)).toArray 5]
  have hbz : Bs (ext v0 [.cells (List.replicate 65 (.int .u8 0)).toArray 5]) (.slice (some ⟨v0.heap.size, 0, none⟩) 65 65) (List.replicate 65 0) := ⟨_, _, _, rfl, by simp, At.of (cs := (List.replicate 65 (.int .u8 0)).toArray) (E := 5) (fr := (0, 0)) (hp_new v0 _)⟩
  have hbs := hbs.bel hx
  have hb0 := bt hb0 hx
  generalize ext v0 [.cells (List.replicate 65 (.int .u8 0)).toArray 5] = v1 at hbz hbs hb0 ⊢
  generalize v0.heap.size = z at hbz ⊢
  simp
  refine (build84 a z _).2 ?_
  refine ⟨fun s x => ∃ i : Nat, s = [.int .i64 (i : Nat)] ∧ i ≤ 8 ∧ Bel v1 x, fun s _ => (9 - n0 s 0).toNat, ⟨0, rfl, by omega, br v1⟩, ?_⟩
  rintro s x ⟨i, rfl, hi, hx⟩
  simp
  refine ifD (fun h1 => ?_) (fun h1 => ?_)
  · have hi8 : i < (badM a z).length := by rw [badM_length]; omega
    have hget := List.getElem?_eq_getElem hi8
    have hmem := List.getElem_mem hi8
    have hmay := bad_may a z _ hmem
    refine (index84 a z hget _).2 ?_
    have hkey : ∀ y ∈ badM a z, (y.it.key ≠ [] → Bs v1 y.kv y.it.key) ∧ (∀ c ∈ y.it.key, c < 256) := by
      intro y hy
      simp only [badM, List.mem_cons, List.not_mem_nil, or_false] at hy
      rcases hy with rfl | rfl | rfl | rfl | rfl | rfl | rfl | rfl
      · exact ⟨fun h => absurd rfl h, fun c hc => by cases hc⟩
      · refine ⟨fun _ => hbz, fun c hc => ?_⟩
        have := List.eq_of_mem_replicate hc
        omega
      all_goals exact ⟨fun _ => hbs, fun c hc => by simp at hc; omega⟩
    obtain ⟨hk1, hk2⟩ := hkey _ hmem
    generalize (badM a z)[i] = im at hmay hk1 hk2 ⊢
    obtain ⟨ka, kc, ⟨key, seq, kind, size⟩⟩ := im
    simp [encIm]
    have items : ∀ y g, Bel v1 y → hp y g = some (.cells #[.slice ka key.length kc, .int .u64 seq, .int .i64 kind, .int .i64 size] 79) → Items y (.slice (some ⟨g, 0, none⟩) 1 1) [⟨ka, kc, ⟨key, seq, kind, size⟩⟩] := fun y g hy hg =>
      ⟨rd_lit encIm_ok hg rfl rfl, fun u hu hn => by simp at hu; subst hu; exact (hk1 hn).bel hy, fun u hu => by simp at hu; subst hu; exact hk2⟩
    have h0 := hp_ext_at (w := x) (L := [.cells #[.slice ka key.length kc, .int .u64 seq, .int .i64 kind, .int .i64 size] 79, .cells #[.slice ka key.length kc, .int .u64 seq, .int .i64 kind, .int .i64 size] 79]) (i := 0) rfl
    have h1' := hp_ext_at (w := x) (L := [.cells #[.slice ka key.length kc, .int .u64 seq, .int .i64 kind, .int .i64 size] 79, .cells #[.slice ka key.length kc, .int .u64 seq, .int .i64 kind, .int .i64 size] 79]) (i := 1) rfl
    have hx2 := bx' x [.cells #[.slice ka key.length kc, .int .u64 seq, .int .i64 kind, .int .i64 size] 79, .cells #[.slice ka key.length kc, .int .u64 seq, .int .i64 kind, .int .i64 size] 79]
    generalize ext x [.cells #[.slice ka key.length kc, .int .u64 seq, .int .i64 kind, .int .i64 size] 79, .cells #[.slice ka key.length kc, .int .u64 seq, .int .i64 kind, .int .i64 size] 79] = x2 at h0 h1' hx2 ⊢
    have it1 := items x2 _ (bt hx hx2) h1'
    have e6 : IntKind.i64.wrap ((i : Int) + 1) = ((i + 1 : Nat) : Int) := i64_succ (by omega)
    refine c21 (k21 it1 (rd_nil _ _ _) (by simp) (by decide) (plan_bad hmay) fun x3 sa sc la lc b3 _ _ => ?_)
    have h0 := bg b3 h0
    rw [Nat.add_zero] at h0
    have hl0 := hp_lt h0
    have hne : ¬ x.heap.size = x3.heap.size := by omega
    simp [h0]
    have b4 := bx' x3 [.cells #[.slice sa 0 sc, .slice la 0 lc] 70, .cells #[.slice ka key.length kc, .int .u64 seq, .int .i64 kind, .int .i64 size] 79]
    have h4 := hp_ext_at (w := x3) (L := [.cells #[.slice sa 0 sc, .slice la 0 lc] 70, .cells #[.slice ka key.length kc, .int .u64 seq, .int .i64 kind, .int .i64 size] 79]) (i := 1) rfl
    have bx4 := bt (bt hx hx2) (bt b3 b4)
    have it2 := items _ _ bx4 h4
    refine c24 (s24 it2.rd (by simp) fun x5 b5 => ?_)
    rw [show mayI 0 (List.map Im.it [(⟨ka, kc, ⟨key, seq, kind, size⟩⟩ : Im)]) = false from hmay]
    refine (ifV_false _ _).2 ?_
    rw [e6]
    exact ⟨⟨i + 1, rfl, by omega, bt bx4 b5⟩, by simp [n0]; omega⟩
  · have hw := bt hb0 hx
    clear hbs hbz
    refine c21 (k21 (P := ([], [], 1)) (items_nil _) (rd_nil _ _ _) (by decide) (by decide) (by decide +kernel) fun y1 _ _ _ _ b1 _ _ => ?_)
    have hw := bt hw b1
    simp
    refine c21 (k21 (P := ([], [], 1)) (items_nil _) (rd_nil _ _ _) (by decide) (by decide) (by decide +kernel) fun y2 _ _ _ _ b2 _ _ => ?_)
    have hw := bt hw (bt (bx' y1 _) b2)
    simp
    refine c21 (k21 (P := ([], [], 1)) (items_nil _) (rd_nil _ _ _) (by decide) (by decide) (by decide +kernel) fun y3 _ _ _ _ b3 _ _ => ?_)
    have hw := bt hw (bt (bx' y2 _) b3)
    simp
    refine c21 (k21 (P := ([], [], 1)) (items_nil _) (rd_nil _ _ _) (by decide) (by decide) (by decide +kernel) fun y4 _ _ _ _ b4 _ _ => ?_)
    have hw := bt hw (bt (bx' y3 _) b4)
    simp
    refine c21 (k21 (P := ([], [], 0)) (at_ := [5]) (items_nil _) (rd_lit encU_ok (hp_ext_at (i := 1) rfl) rfl rfl) (by decide) (by decide) (by decide +kernel) fun y5 sx cx lx dx b5 _ r5 => ?_)
    have hw := bt hw (bt (bx' y4 _) b5)
    simp
    have h5 := hp_ext_at (w := y5) (L := [.cells #[.slice sx 0 cx, .slice lx 0 dx] 70]) (i := 0) rfl
    rw [Nat.add_zero] at h5
    have x5 := bx' y5 [.cells #[.slice sx 0 cx, .slice lx 0 dx] 70]
    have r5 := r5.bel x5
    dsimp only [List.length_nil] at r5
    have hw := bt hw x5
    clear x5 b5 b4 b3 b2 b1 hx
    generalize y5.heap.size = q at h5 ⊢
    generalize ext y5 [.cells #[.slice sx 0 cx, .slice lx 0 dx] 70] = y6 at h5 r5 hw ⊢
    refine c25 (s25 fun y7 g1 a1 b1 k1 hg1 hbl1 ha1 hb1 => ?_)
    have x7 := bx' y7 [.cells #[.int .u64 5] 35]
    refine c21 (k21 (P := ([], [], 7)) (at_ := [5]) ((five_items hbl1 ha1 hb1).bel x7) (rd_lit encU_ok (hp_ext_at (i := 0) rfl) rfl rfl) (by simp [fiveM]) (by decide) (by rw [fiveM_it]; decide +kernel) fun y8 s8 c8 l8 d8 k8 _ _ => ?_)
    simp
    have x8 := bx' y8 [.cells #[.slice s8 0 c8, .slice l8 0 d8] 70]
    have kk := bt k1 (bt x7 (bt k8 x8))
    generalize ext y8 [.cells #[.slice s8 0 c8, .slice l8 0 d8] 70] = y9 at kk ⊢
    clear x8 k8 x7 hbl1 ha1 hb1 hg1 k1
    refine c25 (s25 fun z1 g1 a1 b1 k1 hg1 hbl1 ha1 hb1 => ?_)
    have x7 := bx' z1 [.cells #[.int .u64 5] 35]
    refine c21 (k21 (P := ([⟨4, (16777214, 16), (0, 0)⟩], [⟨16777214, 46, 1, 5, 5⟩], 0)) (at_ := [5]) ((five_items hbl1 ha1 hb1).bel x7) (rd_lit encU_ok (hp_ext_at (i := 0) rfl) rfl rfl) (by simp [fiveM]) (by decide) (by rw [fiveM_it]; decide +kernel) fun z2 s8 c8 l8 d8 k8 _ _ => ?_)
    simp
    have x8 := bx' z2 [.cells #[.slice s8 1 c8, .slice l8 1 d8] 70]
    have kk := bt kk (bt k1 (bt x7 (bt k8 x8)))
    generalize ext z2 [.cells #[.slice s8 1 c8, .slice l8 1 d8] 70] = z3 at kk ⊢
    clear x8 k8 x7 hbl1 ha1 hb1 hg1 k1
    refine c25 (s25 fun z4 g1 a1 b1 k1 hg1 hbl1 ha1 hb1 => ?_)
    refine (idxR (T := 63) (k := 4) (by kernel_rfl) (i := 1) (n := 5) (by decide)).2 ?_
    refine (fld_79_1 _ _ _).2 ?_
    refine stC (A := []) (c := (fiveM a1 b1).flatMap encIm) (j := 5) hbl1 rfl (by simp [fiveM, encIm]) size_35 rfl rfl ?_
    have hset : ([] ++ ((fiveM a1 b1).flatMap encIm).set 5 (.int .u64 1)) = (twoM a1 b1).flatMap encIm := rfl
    rw [hset]
    have ku : Bel z3 (upd z4 g1 (.cells ((twoM a1 b1).flatMap encIm).toArray 79)) := bu k1 hg1 _
    have hbl2 : hp (upd z4 g1 (.cells ((twoM a1 b1).flatMap encIm).toArray 79)) g1 = some (.cells ((twoM a1 b1).flatMap encIm).toArray 79) := by simp [hbl1]
    have stay : ∀ {v : Nat} {k : List Nat}, Bs z4 (.slice (some ⟨v, 0, none⟩) 1 1) k → k = [97] ∨ k = [98] → Bs (upd z4 g1 (.cells ((twoM a1 b1).flatMap encIm).toArray 79)) (.slice (some ⟨v, 0, none⟩) 1 1) k := by
      rintro v k ⟨bb, off, c, e, hc, hat⟩ hk
      injection e with e e2 e3
      injection e with e
      injection e with e e4 e5
      subst e; subst e4
      refine ⟨v, 0, 1, by rw [e2], by omega, hat.of_hp (upd_ne _ _ _ _ ?_)⟩
      rintro rfl
      obtain ⟨cs, E, fr, h1, h2⟩ := hat
      rw [hbl1] at h1
      injection h1 with h1
      injection h1 with h1
      subst h1
      rcases hk with rfl | rfl
      · have := h2 0 (.int .u8 97) rfl; simp [fiveM, encIm] at this
      · have := h2 0 (.int .u8 98) rfl; simp [fiveM, encIm] at this
    refine c21 (k21 (P := ([], [], 1)) (two_items hbl2 (stay ha1 (.inl rfl)) (stay hb1 (.inr rfl))) (rd_nil _ _ _) (by simp [twoM]) (by decide) two_bad fun z5 s8 c8 l8 d8 k8 _ _ => ?_)
    have kk := bt kk (bt ku k8)
    have x9 := bx' z5 [.cells #[.slice s8 0 c8, .slice l8 0 d8] 70]
    have kk := bt kk x9
    have hq := bg kk h5
    simp [hq]
    refine c26 (s26 (r5.bel kk) (by decide) (fun x hx => by simp at hx) fun v1 m1 => ?_)
    refine (pure_eql _ _ _ _ _ _).2 ?_
    rw [show bytesOf ([] : List Sl) = 0 from rfl, decide_eq_true rfl]
    refine (ifV_true _ _).2 ?_
    refine c24 (s24 (rd_nil _ _ _) (by decide) fun v2 m2 => ?_)
    rw [show mayI 0 (List.map Im.it []) = true from rfl]
    refine (ifV_true _ _).2 ?_
    exact c22 (s22 fun v3 m3 => hR _ (bt hw (bt kk (bt m1 (bt m2 m3)))))
end Go.Proofs.Ytbcmoikpmmjlkaa
