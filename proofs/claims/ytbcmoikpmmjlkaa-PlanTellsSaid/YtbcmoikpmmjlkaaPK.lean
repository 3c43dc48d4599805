/- Law 25, PlanTells: the walk. -/
import Derived.Test.YtbcmoikpmmjlkaaPJ
namespace Go.Proofs.Ytbcmoikpmmjlkaa
open Go Eng
set_option maxRecDepth 100000
theorem planOf_ok (its : List Itm) (at_ : List Int) (limit first : Int) : (planOf its at_ limit first).1.length ≤ its.length ∧ (planOf its at_ limit first).2.1.length ≤ its.length ∧ ∀ x ∈ (planOf its at_ limit first).2.1, 0 ≤ x.size ∧ x.size ≤ 4294967295 := by
  unfold planOf
  split
  · exact ⟨by simp, by simp, fun x hx => by simp at hx⟩
  · rename_i h
    have h1 : mayI 0 its = true := by
      cases hm : mayI 0 its with
      | true => rfl
      | false => exact absurd (.inl hm) h
    have h2 : outP limit first = false := by
      cases hm : outP limit first with
      | false => rfl
      | true => exact absurd (.inr hm) h
    unfold outP at h2
    have h2 := of_decide_eq_false h2
    split
    · exact ⟨by simp, by simp, fun x hx => by simp at hx⟩
    · obtain ⟨n, hn, hok⟩ := layTo_ok (first := first) (mayP_of (Int.le_refl 0) h1) at_ (limit := limit) (by omega) its.length (Nat.le_refl _)
      exact ⟨by have := hok.steps; dsimp only; omega, by have := hok.len; dsimp only; omega, fun x hx => by have := hok.sl x hx; omega⟩
theorem Rd.cut {α : Type} {w : World} {k : Nat} {enc : α → List Value} {a a' : Option Addr} {n c c' : Nat} {l : List α} (h : Rd w k enc (.slice a n c) l) (ha : ∀ b o, a = some ⟨b, o, none⟩ → a' = a) (m : Nat) : Rd w k enc (.slice a' (l.take m).length c') (l.take m) := by
  obtain ⟨a0, c0, e, h2⟩ := h
  injection e with e1 e2 e3
  subst e1; subst e2; subst e3
  refine ⟨a', c', rfl, fun i x hx => ?_⟩
  have hx' : l[i]? = some x := by
    rw [List.getElem?_take] at hx
    split at hx
    · exact hx
    · cases hx
  obtain ⟨b, off, e, hat⟩ := h2 i x hx'
  exact ⟨b, off, by rw [ha b off e, e], hat⟩
theorem rdS {St : World → Prop} {b o T : Nat} {X : Obj} {x : Value} (h : ∀ u, St u → hp u b = some X) (hx : ldSh (shapeT Pg T) (some X) o = some x) {K : Value → Prop} (k : K x) : readP St (loadW Pg T (.pointer (some ⟨b, o, none⟩))) K :=
  ⟨x, fun u hu => by rw [loadW_ptr, h u hu]; exact hx, k⟩
/-- A row of the document's items. -/
theorem row105 : RowT 105 107 4 48 := ⟨Try.underlying105, by kernel_rfl⟩
theorem st70 {w : World} {q : Nat} {a b : Option Addr} {n c m d : Nat} (h : hp w q = some (.cells #[.slice none 0 0, .slice none 0 0] 70)) {K : World → Prop} (hK : K (upd w q (.cells #[.slice a n c, .slice b m d] 70))) : getU (storeW Pg 70 (.pointer (some ⟨q, 0, none⟩)) (.agg #[.slice a n c, .slice b m d]) w) K := by
  simp [h]; exact hK
theorem st111 {w : World} {q : Nat} {a b : Option Addr} {n c m d : Nat} (h : hp w q = some (.cells #[.slice none 0 0, .slice none 0 0] 111)) {K : World → Prop} (hK : K (upd w q (.cells #[.slice a n c, .slice b m d] 111))) : getU (storeW Pg 111 (.pointer (some ⟨q, 0, none⟩)) (.agg #[.slice a n c, .slice b m d]) w) K := by
  simp [h]; exact hK
theorem st75 {w : World} {q : Nat} {s : Sp} (h : hp w q = some (.cells #[.int .i64 0, .int .u32 0, .int .u32 0, .int .u32 0, .int .u32 0] 75)) {K : World → Prop} (hK : K (upd w q (.cells (encSp s).toArray 75))) : getU (storeW Pg 75 (.pointer (some ⟨q, 0, none⟩)) (.agg (encSp s).toArray) w) K := by
  simp [h, encSp]; exact hK
theorem bytesOf_le {l : List Sl} (hb : ∀ x ∈ l, 0 ≤ x.size ∧ x.size ≤ 4294967295) : ∀ j, j ≤ l.length → 0 ≤ bytesOf (l.take j) ∧ bytesOf (l.take j) ≤ 4294967295 * (j : Int) := by
  intro j
  induction j with
  | zero => intro _; simp [bytesOf]
  | succ j ih =>
    intro hj
    have hjx := hb _ (List.getElem_mem (show j < l.length by omega))
    have := ih (by omega)
    rw [List.take_succ_eq_append_getElem (by omega)]
    unfold bytesOf at this ⊢
    rw [List.map_append, List.sum_append]
    simp only [List.map_cons, List.map_nil, List.sum_cons, List.sum_nil]
    omega
set_option maxHeartbeats 1000000 in
/-- PlanTells. -/
theorem s9 {w : World} {v av : Value} {ims0 : List Im} {ats0 : List Int} {limit first : Int} (h : Items w v ims0) (hc : ∀ x ∈ ims0, x.it.key.length ≤ x.kc) (ha : Rd w 1 encU av ats0) (hcap : ∀ a n c, av = .slice a n c → n ≤ c)
    {R : Value → World → Prop} (hR : ∀ w', Bel w w' → R (.bool true) w') : F9 v (.agg #[av, .int .i64 limit, .int .u32 first]) w R := by
  obtain ⟨a, c, rfl⟩ := ha.form
  have hcap := hcap _ _ _ rfl
  unfold F9
  refine (newP_some _ _ _ _).2 ?_
  have e0 : (Value.agg #[.slice a ats0.length c, .int .i64 limit, .int .u32 first]).cells = #[.slice a ats0.length c, .int .i64 limit, .int .u32 first] := rfl
  rw [e0]
  have hx0 := bx' w [.cells #[.slice a ats0.length c, .int .i64 limit, .int .u32 first] 103]
  have cq := hp_new w (.cells #[.slice a ats0.length c, .int .i64 limit, .int .u32 first] 103)
  generalize ext w [.cells #[.slice a ats0.length c, .int .i64 limit, .int .u32 first] 103] = w1 at hx0 cq ⊢
  generalize hq : w.heap.size = q at cq ⊢
  have hd1 := bd (br w1)
  have cqd := bg hd1 cq
  refine drawn' (St0 := fun x => hp x q = some (.cells #[.slice a ats0.length c, .int .i64 limit, .int .u32 first] 103)) cqd fun St hS => ?_
  have hSu := (hS w1.drew).2 cqd
  clear hSu
  simp [-newP_some, -storeW_ptr, -zero_79, -zero_70, -zero_111, -zero_75, -zero_116]
  refine rdS (fun x hx => (hS x).1 hx) (x := .slice a ats0.length c) rfl ?_
  refine rdS (fun x hx => (hS x).1 hx) (x := .slice a ats0.length c) rfl ?_
  simp [-newP_some, -storeW_ptr, -zero_79, -zero_70, -zero_111, -zero_75, -zero_116]
  have e1 : (0 : Int) ≤ (if (20 : Int) < ats0.length then 20 else (ats0.length : Int)) ∧ (if (20 : Int) < ats0.length then 20 else (ats0.length : Int)) ≤ c ∧ (if (20 : Int) < ats0.length then 20 else (ats0.length : Int)).toNat = (ats0.take 20).length := by
    rw [List.length_take]; split <;> omega
  refine slice0 Try.underlying66 size_35 e1.1 e1.2.1 fun a' ha' => ?_
  rw [e1.2.2]
  have hats := ha.cut ha' 20 (c' := c)
  have hl20 : (ats0.take 20).length ≤ 20 := by rw [List.length_take]; omega
  generalize ats0.take 20 = ats at hats hl20 ⊢
  have hqd := hp_lt cqd
  refine c36 (s36 h (bt hx0 hd1) hc fun w2 v2 ims b2 hoI hl60 hfew => ?_)
  have cq2 := bg b2 cqd
  refine ⟨(hS _).2 cq2, ?_⟩
  clear hS cqd
  refine stC (A := []) (c := [.slice a ats0.length c, .int .i64 limit, .int .u32 first]) (j := 0) cq2 rfl (by simp) size_66 rfl rfl ?_
  have hq2 : w.heap.size ≤ q := Nat.le_of_eq hq
  have cq3 : hp (upd w2 q (.cells ([] ++ [Value.slice a ats0.length c, .int .i64 limit, .int .u32 first].set 0 (.slice a' ats.length c)).toArray 103)) q = some (.cells #[.slice a' ats.length c, .int .i64 limit, .int .u32 first] 103) := by simp [cq2]
  have hw3 : Bel w (upd w2 q (.cells ([] ++ [Value.slice a ats0.length c, .int .i64 limit, .int .u32 first].set 0 (.slice a' ats.length c)).toArray 103)) := bu (bt (bt hx0 hd1) b2) hq2 _
  have hoI := hoI.kept (w' := upd w2 q (.cells ([] ++ [Value.slice a ats0.length c, .int .i64 limit, .int .u32 first].set 0 (.slice a' ats.length c)).toArray 103)) fun g hg => upd_ne _ _ _ _ (by rintro rfl; have := (hoI.ge hg).1; omega)
  generalize upd w2 q (.cells ([] ++ [Value.slice a ats0.length c, .int .i64 limit, .int .u32 first].set 0 (.slice a' ats.length c)).toArray 103) = w3 at cq3 hw3 hoI ⊢
  have hI : Items w3 v2 ims := ⟨hoI.rd encIm_ok, fun x hx hn => ((hfew x hx).key hn).bel hw3, fun x hx => (hfew x hx).byte⟩
  have h70 : ∀ x ∈ ims, x.it.key.length ≤ 70 := fun x hx => (hfew x hx).len
  have hats := hats.bel hw3
  clear hoI hfew cq2 b2 hqd hcap e1 e0 hd1 hx0 cq h hc ha' ha
  obtain ⟨va, vc, rfl⟩ := hI.rd.form
  have hrd := hI.rd
  simp [-newP_some, -storeW_ptr, -zero_79, -zero_70, -zero_111, -zero_75, -zero_116]
  refine ⟨fun s z => ∃ (ov : Value) (i : Nat) (l : List Im), s = [ov, .int .i64 (i : Nat)] ∧ i ≤ ims.length ∧ Bel w3 z ∧ Own z w3.heap.size 107 4 encIm ov l ∧ l.map Im.it = (ims.map Im.it).take i ∧ ∀ x ∈ l, Kc z w3.heap.size x.kv x.it.key, fun s _ => (61 - n0 s 1).toNat, ⟨_, 0, [], rfl, by omega, br w3, Own.nil _ _ _ _ _, rfl, fun x hx => by simp at hx⟩, ?_⟩
  rintro s z ⟨ov, i, l, rfl, hi, hz, ho, hli, hkc⟩
  have hlen : l.length = i := by
    have := congrArg List.length hli
    rw [List.length_map, List.length_take, List.length_map] at this
    omega
  simp [-newP_some, -storeW_ptr, -zero_79, -zero_70, -zero_111, -zero_75, -zero_116]
  refine ifD (fun h1 => ?_) (fun h1 => ?_)
  · obtain ⟨b, o, c2, ⟨off, ho', hsl⟩, hat⟩ := (hrd.bel hz).at (List.getElem?_eq_getElem h1)
    injection hsl with hsl _ _
    subst hsl
    have hm := List.getElem_mem h1
    have hbs := hI.key _ hm
    have hby := hI.byte _ hm
    have hk70 := h70 _ hm
    have htk : (ims.map Im.it).take (i + 1) = (ims.map Im.it).take i ++ [ims[i].it] := by rw [List.take_succ_eq_append_getElem (by simpa using h1)]; simp
    generalize ims[i] = x at hat hbs hby hk70 htk
    obtain ⟨ka, kc, ⟨key, seq, kind, size⟩⟩ := x
    refine (idxR (T := 63) (k := 4) (by kernel_rfl) h1).2 ?_
    rw [← ho']
    simp [hat.cells0, encIm, -newP_some, -storeW_ptr, -zero_79, -zero_70, -zero_111, -zero_75, -zero_116]
    refine newL zero_79 fun r z1 b1 hr hr1 cr => ?_
    refine st79 cr ?_
    have cr1 : hp (upd z1 r (.cells #[.slice ka key.length kc, .int .u64 seq, .int .i64 kind, .int .i64 size] 79)) r = some (.cells #[.slice ka key.length kc, .int .u64 seq, .int .i64 kind, .int .i64 size] 79) := by simp [cr]
    have hz1 : Bel z (upd z1 r (.cells #[.slice ka key.length kc, .int .u64 seq, .int .i64 kind, .int .i64 size] 79)) := bu b1 hr _
    generalize upd z1 r (.cells #[.slice ka key.length kc, .int .u64 seq, .int .i64 kind, .int .i64 size] 79) = z2 at cr1 hz1 ⊢
    clear cr b1 hr1
    have hdz := bd (br z2)
    have crd := bg hdz cr1
    refine drawn' (St0 := fun x => hp x r = some (.cells #[.slice ka key.length kc, .int .u64 seq, .int .i64 kind, .int .i64 size] 79)) crd fun St hS => ?_
    simp [-newP_some, -storeW_ptr, -zero_79, -zero_70, -zero_111, -zero_75, -zero_116]
    refine rdS (fun x hx => (hS x).1 hx) (x := .slice ka key.length kc) rfl ?_
    refine rdS (fun x hx => (hS x).1 hx) (x := .int .u64 seq) rfl ?_
    refine rdS (fun x hx => (hS x).1 hx) (x := .int .i64 kind) rfl ?_
    refine rdS (fun x hx => (hS x).1 hx) (x := .int .i64 size) rfl ?_
    have hz3 := bt hz1 hdz
    refine c37 (s37 (k := key) ⟨⟨ka, kc, rfl⟩, fun hn => (hbs hn).bel (bt hz hz3)⟩ (by dsimp only at hk70; omega) fun z4 v4 b4 hk4 => ?_)
    have cr4 := bg b4 crd
    have hz4 := bt hz3 b4
    refine ⟨(hS _).2 cr4, ?_⟩
    obtain ⟨va4, vc4, rfl⟩ := hk4.form
    simp [-newP_some, -storeW_ptr, -zero_79, -zero_70, -zero_111, -zero_75, -zero_116]
    have hx5 := bx' z4 [.cells #[.slice va4 key.length vc4, .int .u64 seq, .int .i64 kind, .int .i64 size] 107]
    have g5 := hp_new z4 (.cells #[.slice va4 key.length vc4, .int .u64 seq, .int .i64 kind, .int .i64 size] 107)
    have cr5 := bg hx5 cr4
    have hk5 := hk4.bel hx5
    have hz5 := bt hz4 hx5
    have ho5 := ho.bel hz5
    have hle5 : w3.heap.size ≤ z2.drew.heap.size := by have := hz.size; have := hz3.size; omega
    generalize ext z4 [.cells #[.slice va4 key.length vc4, .int .u64 seq, .int .i64 kind, .int .i64 size] 107] = z5 at g5 cr5 hk5 hz5 ho5 ⊢
    refine ⟨(hS _).2 cr5, ?_⟩
    refine app row105 encIm_ok ho5 (x := ⟨va4, vc4, ⟨key, seq, kind, size⟩⟩) g5 rfl (by omega) (by simp only [maxLen]; omega) (bt hz hz5).size fun v' z6 ho6 hg6 hv6 => ?_
    have nr := ho5.ne cr5 (by intro cur e; injection e with _ e; cases e)
    have cr6 := grown_hp hg6 cr5 nr
    refine ⟨(hS _).2 cr6, ?_⟩
    have e6 : IntKind.i64.wrap ((i : Int) + 1) = ((i + 1 : Nat) : Int) := i64_succ (by omega)
    rw [e6]
    have hz6 : Bel w3 z6 := grown_bel hg6 (bt hz hz5) fun g hg => (ho5.ge hg).1
    have keep : ∀ b o, hp z5 b = some o → (∀ cs E fr, o = .cells cs E fr → E = 5) → hp z6 b = some o := fun b o hb hE => grown_hp hg6 hb (ho5.ne hb (by rintro cur rfl; have := hE _ _ _ rfl; cases this))
    refine ⟨⟨v', i + 1, ⟨rfl, rfl⟩, h1, hz6, _, ho6, by rw [List.map_append, hli, htk]; rfl, fun y hy => ?_⟩, by simp [n0]; omega⟩
    rw [List.mem_append, List.mem_singleton] at hy
    rcases hy with hy | rfl
    · exact ((hkc y hy).bel hz5).keep fun b o hb hE _ => keep b o hb hE
    · have := hk5.keep fun b o hb hE _ => keep b o hb hE
      exact ⟨this.form, fun hn => by
        obtain ⟨b, c, cs, fr, h1, h2, h3, h4, h5⟩ := this.bs hn
        exact ⟨b, c, cs, fr, h1, h2, h3, by omega, h5⟩⟩
  · obtain rfl : i = ims.length := by omega
    rw [List.take_of_length_le (by simp)] at hli
    have cz := bg hz cq3
    have hI2 : Items z ov l := ⟨ho.rd encIm_ok, fun x hx hn => (hkc x hx).kb.bs hn, fun x hx c hc => by
      have : x.it ∈ ims.map Im.it := by rw [← hli]; exact List.mem_map.2 ⟨x, hx, rfl⟩
      obtain ⟨y, hy, e⟩ := List.mem_map.1 this
      exact hI.byte y hy c (by rw [e]; exact hc)⟩
    have hI1 := hI.bel hz
    have hats1 := hats.bel hz
    have hwz := bt hw3 hz
    have hkb : ∀ x ∈ l, Kb z x.kv x.it.key := fun x hx => (hkc x hx).kb
    clear hkc ho hI hats hrd hw3 cq3 hz
    obtain ⟨oa, oc, rfl⟩ := hI2.rd.form
    rw [hlen] at hI2 ⊢
    have pok := planOf_ok (ims.map Im.it) ats limit first
    rw [List.length_map] at pok
    obtain ⟨P, hP⟩ : ∃ P, planOf (ims.map Im.it) ats limit first = P := ⟨_, rfl⟩
    rw [hP] at pok
    obtain ⟨pok1, pok2, pok3⟩ := pok
    simp [cz, -newP_some, -storeW_ptr, -zero_79, -zero_70, -zero_111, -zero_75, -zero_116]
    refine c38 (s38 hats1 (by omega) fun z1 at1 b1 hat1 => ?_)
    have cz1 := bg b1 cz
    have hI3 := hI1.bel b1
    have hI4 := hI2.bel b1
    have hw1 := bt hwz b1
    have hats2 := hats1.bel b1
    have hkb1 : ∀ x ∈ l, Kb z1 x.kv x.it.key := fun x hx => (hkb x hx).bel b1
    clear cz hI1 hI2 hwz hats1 hkb b1
    simp [cz1, -newP_some, -storeW_ptr, -zero_79, -zero_70, -zero_111, -zero_75, -zero_116]
    refine c21 (of21 hI3 hat1 (by omega) (by omega) hP fun z2 sa sc la lc b2 r1 r2 => ?_)
    have cz2 := bg b2 cz1
    simp [-newP_some, -storeW_ptr, -zero_79, -zero_70, -zero_111, -zero_75, -zero_116]
    refine newL zero_70 fun r9 z3 b3 hr9 _ c9 => ?_
    refine st70 c9 ?_
    have c9 : hp (upd z3 r9 (.cells #[.slice sa P.1.length sc, .slice la P.2.1.length lc] 70)) r9 = some (.cells #[.slice sa P.1.length sc, .slice la P.2.1.length lc] 70) := by simp [c9]
    have b3 : Bel z2 (upd z3 r9 (.cells #[.slice sa P.1.length sc, .slice la P.2.1.length lc] 70)) := bu b3 hr9 _
    generalize upd z3 r9 (.cells #[.slice sa P.1.length sc, .slice la P.2.1.length lc] 70) = z4 at c9 b3 ⊢
    have r1 := r1.bel b3
    have r2 := r2.bel b3
    have b4 := bt b2 b3
    have cz4 := bg b3 cz2
    have hw4 := bt hw1 b4
    have hI3 := hI3.bel b4
    have hI4 := hI4.bel b4
    have hats4 := hats2.bel b4
    have hat4 := hat1.bel b4
    have hkb4 : ∀ x ∈ l, Kb z4 x.kv x.it.key := fun x hx => (hkb1 x hx).bel b4
    clear hr9 b3 b2 b4 cz1 cz2 hw1 hats2 hat1 hkb1
    simp [cz4, -newP_some, -storeW_ptr, -zero_79, -zero_70, -zero_111, -zero_75, -zero_116]
    rw [← hli] at hP
    refine c39 (s39 hI4 hats4 (by omega) (by omega) fun z5 sv lv b5 p1 p2 => ?_)
    rw [hP] at p1 p2 ⊢
    obtain ⟨sb, sd, rfl⟩ := p1.form
    obtain ⟨lb, ld, rfl⟩ := p2.form
    simp [-newP_some, -storeW_ptr, -zero_79, -zero_70, -zero_111, -zero_75, -zero_116]
    refine newL zero_111 fun r11 z6 b6 hr11 _ c11 => ?_
    refine st111 c11 ?_
    have c11 : hp (upd z6 r11 (.cells #[.slice sb P.1.length sd, .slice lb P.2.1.length ld] 111)) r11 = some (.cells #[.slice sb P.1.length sd, .slice lb P.2.1.length ld] 111) := by simp [c11]
    have b6 : Bel z5 (upd z6 r11 (.cells #[.slice sb P.1.length sd, .slice lb P.2.1.length ld] 111)) := bu b6 hr11 _
    generalize upd z6 r11 (.cells #[.slice sb P.1.length sd, .slice lb P.2.1.length ld] 111) = z7 at c11 b6 ⊢
    refine c22 (s22 fun z8 b8 => ?_)
    have p1 := (p1.bel b6).bel b8
    have p2 := (p2.bel b6).bel b8
    have c11 := bg b8 c11
    have b7 := bt b5 (bt b6 b8)
    have r1 := r1.bel b7
    have r2 := r2.bel b7
    have c9 := bg b7 c9
    have cz := bg b7 cz4
    have hw8 := bt hw4 b7
    have hI3 := hI3.bel b7
    have hI4 := hI4.bel b7
    have hats4 := hats4.bel b7
    have hat4 := hat4.bel b7
    have hkb4 : ∀ x ∈ l, Kb z8 x.kv x.it.key := fun x hx => (hkb4 x hx).bel b7
    clear b5 b6 b7 b8 hr11 cz4 hw4
    simp [c9, c11, -newP_some, -storeW_ptr, -zero_79, -zero_70, -zero_111, -zero_75, -zero_116]
    refine c40 (s40 r2 p2 (by omega) fun z9 b9 => ?_)
    simp [-newP_some, -storeW_ptr, -zero_79, -zero_70, -zero_111, -zero_75, -zero_116]
    refine c24 (s24 (hI3.rd.bel b9) (by omega) fun z10 b10 => ?_)
    have b10 := bt b9 b10
    refine c41 (s41 (hI4.rd.bel b10) (by omega) fun z11 b11 => ?_)
    rw [hli]
    have b11 := bt b10 b11
    have cz11 := bg b11 cz
    simp [cz11, -newP_some, -storeW_ptr, -zero_79, -zero_70, -zero_111, -zero_75, -zero_116]
    refine c42 (s42 (hat4.bel b11) (hats4.bel b11) rfl (by omega) fun z12 b12 => ?_)
    have b12 := bt b11 b12
    have c9 := bg b12 c9
    have c11 := bg b12 c11
    have r1 := r1.bel b12
    have r2 := r2.bel b12
    have p1 := p1.bel b12
    have hw12 := bt hw8 b12
    have hI3 := hI3.bel b12
    have hI4 := hI4.bel b12
    have hkb4 : ∀ x ∈ l, Kb z12 x.kv x.it.key := fun x hx => (hkb4 x hx).bel b12
    have p2 := p2.bel b12
    clear hats4 hat4 cz11 cz b12 b11 b10 b9 hw8
    simp [c9, -newP_some, -storeW_ptr, -zero_79, -zero_70, -zero_111, -zero_75, -zero_116]
    refine ⟨fun s u => ∃ i : Nat, s = [.int .i64 (i : Nat)] ∧ i ≤ P.1.length ∧ Bel z12 u, fun s _ => (P.1.length + 1 - n0 s 0).toNat, ⟨0, rfl, by omega, br z12⟩, ?_⟩
    rintro s u ⟨i, rfl, hi, hu⟩
    simp [-newP_some, -storeW_ptr, -zero_79, -zero_70, -zero_111, -zero_75, -zero_116]
    refine ifD (fun h3 => ?_) (fun h3 => ?_)
    · obtain ⟨b, o, c3, ⟨off, ho, hsl⟩, hat⟩ := (r1.bel hu).at (List.getElem?_eq_getElem h3)
      injection hsl with hsl _ _
      subst hsl
      obtain ⟨b', o', c4, ⟨off', ho', hsl⟩, hat'⟩ := (p1.bel hu).at (List.getElem?_eq_getElem h3)
      injection hsl with hsl _ _
      subst hsl
      generalize P.1[i] = x at hat hat'
      have e6 : IntKind.i64.wrap ((i : Int) + 1) = ((i + 1 : Nat) : Int) := i64_succ (by omega)
      refine (idxR (T := 67) (k := 5) (by kernel_rfl) h3).2 ?_
      rw [← ho]
      have hload := hat.cells0 5 (by decide) (by simp [encSp])
      refine ⟨.agg (encSp x).toArray, by simp only [loadW_ptr, shape_75, ldSh_agg, hload]; rfl, ?_⟩
      refine newL zero_75 fun r15 y b1 hr hr1 c15 => ?_
      refine st75 c15 ?_
      have c15 : hp (upd y r15 (.cells (encSp x).toArray 75)) r15 = some (.cells (encSp x).toArray 75) := by simp [c15]
      have b1 : Bel u (upd y r15 (.cells (encSp x).toArray 75)) := bu b1 hr _
      generalize upd y r15 (.cells (encSp x).toArray 75) = y1 at c15 b1 ⊢
      refine drawn' (St0 := Bel y1) (bd (br y1)) fun St hS => ?_
      refine rdS (X := .cells (encSp x).toArray 75) (fun a ha => bg ((hS a).1 ha) c15) (x := .agg (encSp x).toArray) (by simp [encSp, cellsOf]) ?_
      refine rdS (fun a ha => bg (bt (bt hu b1) ((hS a).1 ha)) c11) (x := .slice (some ⟨b', off', none⟩) P.1.length sd) rfl ?_
      refine (idxR (T := 109) (k := 5) (by kernel_rfl) h3).2 ?_
      rw [← ho']
      refine ⟨.agg (encSp x).toArray, fun a ha => ?_, ?_⟩
      · have := (hat'.bel (bt b1 ((hS a).1 ha))).cells0 5 (by decide) (by simp [encSp])
        simp only [loadW_ptr, shape_119, ldSh_agg, this]; rfl
      obtain ⟨xi, ⟨xt, xu⟩, ⟨xp, xq⟩⟩ := x
      refine (neq_119 _ _ _ _ _ _ _ _ _ _ _).2 ?_
      simp [-newP_some, -storeW_ptr, -zero_79, -zero_70, -zero_111, -zero_75, -zero_116]
      rw [e6]
      exact ⟨⟨i + 1, rfl, h3, bd (bt hu b1)⟩, by simp [n0]; omega⟩
    have c9 := bg hu c9
    have c11 := bg hu c11
    have r2 := r2.bel hu
    have p2 := p2.bel hu
    have hw12 := bt hw12 hu
    have hI3 := hI3.bel hu
    have hI4 := hI4.bel hu
    have hkb4 : ∀ x ∈ l, Kb u x.kv x.it.key := fun x hx => (hkb4 x hx).bel hu
    clear r1 p1 hu h3 hi
    simp [c11, -newP_some, -storeW_ptr, -zero_79, -zero_70, -zero_111, -zero_75, -zero_116]
    have hsum := bytesOf_le pok3
    refine ⟨fun s y => ∃ i : Nat, s = [.int .i64 (bytesOf (P.2.1.take i)), .int .i64 (i : Nat)] ∧ i ≤ P.2.1.length ∧ Bel u y, fun s _ => (P.2.1.length + 1 - n0 s 1).toNat, ⟨0, rfl, by omega, br u⟩, ?_⟩
    rintro s y ⟨j, rfl, hj, hy⟩
    simp [-newP_some, -storeW_ptr, -zero_79, -zero_70, -zero_111, -zero_75, -zero_116]
    refine ifD (fun h3 => ?_) (fun h3 => ?_)
    · obtain ⟨b, o, c3, ⟨off, ho, hsl⟩, hat⟩ := (p2.bel hy).at (List.getElem?_eq_getElem h3)
      injection hsl with hsl _ _
      subst hsl
      have hbx := pok3 _ (List.getElem_mem h3)
      have hs1 := hsum j hj
      have hs2 := hsum (j + 1) h3
      have hstep : bytesOf (P.2.1.take (j + 1)) = bytesOf (P.2.1.take j) + P.2.1[j].size := by
        rw [List.take_succ_eq_append_getElem h3]; unfold bytesOf; rw [List.map_append, List.sum_append]; simp
      generalize P.2.1[j] = x at hat hbx hstep
      have e6 : IntKind.i64.wrap ((j : Int) + 1) = ((j + 1 : Nat) : Int) := i64_succ (by omega)
      refine (idxR (T := 68) (k := 5) (by kernel_rfl) h3).2 ?_
      rw [← ho]
      have hload := hat.cells0 5 (by decide) (by simp [encSl])
      refine ⟨.agg (encSl x).toArray, by simp only [loadW_ptr, shape_116, ldSh_agg, hload]; rfl, ?_⟩
      refine newL zero_116 fun r17 y1 b1 hr hr1 c17 => ?_
      refine st116 c17 ?_
      have c17 : hp (upd y1 r17 (.cells (encSl x).toArray 116)) r17 = some (.cells (encSl x).toArray 116) := by simp [c17]
      have b1 : Bel y (upd y1 r17 (.cells (encSl x).toArray 116)) := bu b1 hr _
      generalize upd y1 r17 (.cells (encSl x).toArray 116) = y2 at c17 b1 ⊢
      simp [c17, encSl, -newP_some, -storeW_ptr, -zero_79, -zero_70, -zero_111, -zero_75, -zero_116]
      have e7 : IntKind.i64.wrap (bytesOf (P.2.1.take j) + IntKind.i64.wrap x.size) = bytesOf (P.2.1.take (j + 1)) := by
        rw [wrap_i64 (n := x.size) (by omega) (by omega), ← hstep, wrap_i64 (by omega) (by omega)]
      rw [e6, e7]
      exact ⟨⟨j + 1, ⟨rfl, rfl⟩, h3, bt hy b1⟩, by simp [n0]; omega⟩
    obtain rfl : j = P.2.1.length := by omega
    rw [List.take_length]
    have c9 := bg hy c9
    have r2 := r2.bel hy
    have hw12 := bt hw12 hy
    have hI3 := hI3.bel hy
    have hI4 := hI4.bel hy
    have hkb4 : ∀ x ∈ l, Kb y x.kv x.it.key := fun x hx => (hkb4 x hx).bel hy
    clear p2 hy h3 hj hsum
    refine ⟨fun s y' => ∃ i : Nat, s = [.int .i64 (i : Nat)] ∧ i ≤ ims.length ∧ Bel y y', fun s _ => (ims.length + 1 - n0 s 0).toNat, ⟨0, rfl, by omega, br y⟩, ?_⟩
    rintro s z ⟨j, rfl, hj, hz⟩
    simp [-newP_some, -storeW_ptr, -zero_79, -zero_70, -zero_111, -zero_75, -zero_116]
    refine ifD (fun h3 => ?_) (fun h3 => ?_)
    · have h3' : j < l.length := by omega
      obtain ⟨b, o, c3, ⟨off, ho, hsl⟩, hat⟩ := (hI3.rd.bel hz).at (List.getElem?_eq_getElem h3)
      injection hsl with hsl _ _
      subst hsl
      obtain ⟨b', o', c4, ⟨off', ho', hsl⟩, hat'⟩ := (hI4.rd.bel hz).at (List.getElem?_eq_getElem h3')
      injection hsl with hsl _ _
      subst hsl
      have hit : l[j].it = ims[j].it := by
        have h1 : (l.map Im.it)[j]? = (ims.map Im.it)[j]? := by rw [hli]
        rw [List.getElem?_map, List.getElem?_map, List.getElem?_eq_getElem h3, List.getElem?_eq_getElem h3'] at h1
        simpa using h1
      have hk1 : Kb z ims[j].kv ims[j].it.key := ⟨⟨_, _, rfl⟩, fun hn => (hI3.key _ (List.getElem_mem h3) hn).bel hz⟩
      have hk2 := (hkb4 _ (List.getElem_mem h3')).bel hz
      have hby := hI3.byte _ (List.getElem_mem h3)
      generalize ims[j] = x at hat hit hk1 hby
      generalize l[j] = x' at hat' hit hk2
      rw [hit] at hk2
      have e6 : IntKind.i64.wrap ((j : Int) + 1) = ((j + 1 : Nat) : Int) := i64_succ (by omega)
      refine drawn' (St0 := Bel z) (bd (br z)) fun St hS => ?_
      refine (idxR (T := 63) (k := 4) (by kernel_rfl) h3).2 ?_
      rw [← ho]
      simp [-newP_some, -storeW_ptr, -zero_79, -zero_70, -zero_111, -zero_75, -zero_116]
      refine ⟨x.kv, fun a ha => ?_, ?_⟩
      · have := (hat.bel ((hS a).1 ha)).cell0 (by simp [encIm])
        simp only [loadW_ptr, shape_36, ldSh_one, this]; rfl
      refine (idxR (T := 105) (k := 4) (by kernel_rfl) h3).2 ?_
      rw [← ho']
      simp [-newP_some, -storeW_ptr, -zero_79, -zero_70, -zero_111, -zero_75, -zero_116]
      refine ⟨x'.kv, fun a ha => ?_, ?_⟩
      · have := (hat'.bel ((hS a).1 ha)).cell0 (by simp [encIm])
        simp only [loadW_ptr, shape_36, ldSh_one, this]; rfl
      have hzd := bd (br z)
      refine c43 (s43 (hk1.bel hzd) (hk2.bel hzd) hby ?_)
      simp [-newP_some, -storeW_ptr, -zero_79, -zero_70, -zero_111, -zero_75, -zero_116]
      rw [e6]
      exact ⟨⟨j + 1, rfl, h3, bd hz⟩, by simp [n0]; omega⟩
    have c9 := bg hz c9
    have r2 := r2.bel hz
    have hw12 := bt hw12 hz
    simp [c9]
    refine c26 (s26 r2 (by omega) pok3 fun y' b => ?_)
    simp
    exact hR _ (bt hw12 b)
end Go.Proofs.Ytbcmoikpmmjlkaa
