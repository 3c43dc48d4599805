/- Law 25: PlanAgain answers true. -/
import Derived.Test.YtbcmoikpmmjlkaaPD
namespace Go.Proofs.Ytbcmoikpmmjlkaa
open Go Eng
set_option maxRecDepth 100000
instance : Inhabited Im := ⟨⟨none, 0, default⟩⟩
def ekU (i : Int) : Value := .int .u64 i
def evB (b : Bool) : Value := .bool b
theorem key35 : KeyOk 35 ekU where
  eq a b w := by
    show (Op.equalIn (9999 + 1) 35 _ _).run Pg w = _
    unfold Op.equalIn
    simp [ekU, run_und Try.underlying35, Result.andThen]
    rfl
  now := ⟨_, Try.underlying35, .inr fun a b => by simp [ekU, Instr.sameNow]; rfl⟩
  check f a w := by
    show (Instr.checkKey f (9999 + 1) 35 _).run Pg w = _
    unfold Instr.checkKey
    simp [ekU, run_und Try.underlying35, Result.andThen]
  bits a := by simp [ekU, Instr.sameBits]
/-- Steps' items in memory. -/
def kimsOf (ims : List Im) (l : List Sp) : List Im := l.map fun s => ims.getD s.item default
theorem kimsOf_snoc (ims : List Im) (l : List Sp) (s : Sp) : kimsOf ims (l ++ [s]) = kimsOf ims l ++ [ims.getD s.item default] := by simp [kimsOf]
theorem kimsOf_length (ims : List Im) (l : List Sp) : (kimsOf ims l).length = l.length := by simp [kimsOf]
theorem kimsOf_it {ims : List Im} : ∀ {l : List Sp}, (∀ s ∈ l, s.item < ims.length) → (kimsOf ims l).map Im.it = subI (ims.map Im.it) (l.map Sp.item)
  | [], _ => rfl
  | s :: l, h => by
    have hs := h s List.mem_cons_self
    have ih := kimsOf_it (ims := ims) (l := l) fun x hx => h x (List.mem_cons_of_mem _ hx)
    unfold kimsOf subI at ih ⊢
    rw [List.map_cons, List.map_cons, List.map_cons, List.map_cons, ih, its_at (List.getElem?_eq_getElem hs)]
    congr 2
    rw [List.getD_eq_getElem?_getD, List.getElem?_eq_getElem hs]; rfl
/-- Has a key a Put among the first items? -/
def hasPut (its : List Itm) (i c : Nat) : Bool := (List.range i).any fun j => decide (kcOf its j = c) && decide ((its.getD j default).kind = 1)
theorem hasPut_succ (its : List Itm) (i c : Nat) : hasPut its (i + 1) c = (hasPut its i c || (decide (kcOf its i = c) && decide ((its.getD i default).kind = 1))) := by
  unfold hasPut
  rw [List.range_succ, List.any_append]
  simp
theorem kept_hasPut {its : List Itm} (hk : ∀ y ∈ its, ∃ c : Nat, y.key = [107, c] ∧ c < 5) (hm : MayP its) {i : Nat} (hi : i < its.length) : keptB its (its.map Itm.seq) i = (hasPut its i (kcOf its i) || decide ((its.getD i default).kind = 1)) := by
  have h := hasPut_succ its i (kcOf its i)
  rw [decide_eq_true rfl, Bool.true_and] at h
  rw [← h, kept_all hm hi]
  unfold hasPut
  rw [Bool.eq_iff_iff, List.any_eq_true, List.any_eq_true]
  constructor
  · rintro ⟨j, hj, h⟩
    have hj' := List.mem_range.1 hj
    rw [Bool.and_eq_true] at h
    refine ⟨j, hj, ?_⟩
    rw [Bool.and_eq_true, decide_eq_true_eq]
    exact ⟨((sameK_iff hk hi (by omega)).1 h.1).symm, h.2⟩
  · rintro ⟨j, hj, h⟩
    have hj' := List.mem_range.1 hj
    rw [Bool.and_eq_true, decide_eq_true_eq] at h
    refine ⟨j, hj, ?_⟩
    rw [Bool.and_eq_true]
    exact ⟨(sameK_iff hk hi (by omega)).2 h.1.symm, h.2⟩
theorem keptN_succ (its : List Itm) (at_ : List Int) (i : Nat) : (keptN its at_ (i + 1)).length = (keptN its at_ i).length + if keptB its at_ i then 1 else 0 := by
  unfold keptN
  rw [List.range_succ, List.filter_append]
  cases h : keptB its at_ i <;> simp [h]
def hasK (nm : List (Int × Bool)) (s : Int) : Prop := s ∈ nm.map (·.1)
set_option maxHeartbeats 1000000 in
/-- PlanAgain. -/
theorem s6 {w : World} {av bv : Value} {l : List Wr} {nb : List Int} (ha : Rd w 4 encWr av l) (hl : ∀ x ∈ l, x.ok) (hb : Rd w 1 encBt bv nb) (hnb : ∀ x ∈ nb, 0 ≤ x ∧ x ≤ 255) {R : Value → World → Prop} (hR : ∀ w', Bel w w' → R (.bool true) w') : F6 av bv w R := by
  obtain ⟨ba, bc, rfl⟩ := hb.form
  unfold F6
  refine c20 (s20 ha hl fun w1 v1 ims b1 hI hims => ?_)
  have hlw : (l.take 60).length ≤ 60 := by simp; omega
  have hokw : ∀ x ∈ l.take 60, x.ok := fun x hx => hl x (List.mem_of_mem_take hx)
  have hmayw := (itemsW_may _ hokw (by omega)).1
  have hkw := itemsW_key _ hokw
  have hnw := itemsW_length (l.take 60)
  generalize itemsW (l.take 60) = its at hims hmayw hkw hnw
  have hnl : ims.length = its.length := by rw [← hims]; simp
  have hkm : ∀ x ∈ ims, ∃ c : Nat, x.it.key = [107, c] ∧ c < 5 := fun x hx => hkw _ (by rw [← hims]; exact List.mem_map.2 ⟨x, hx, rfl⟩)
  have hmp := mayP_of (Int.le_refl 0) hmayw
  obtain ⟨va, vc, rfl⟩ := hI.rd.form
  rw [hnl] at hI ⊢
  simp
  refine mkmap ?_
  have hm0 := Mp.new w1 ekU evB
  have hw0 := bx' w1 [.map #[] 0]
  refine join_of fun J8 hJ8 => ?_
  have e6 : ∀ {k : Nat}, k ≤ 1000 → IntKind.i64.wrap ((k : Int) + 1) = ((k + 1 : Nat) : Int) := fun h => i64_succ (by omega)
  have key8 : ∀ atv ats u nm, Bel w1 u → Own u w1.heap.size 35 1 encU atv ats → ats.length ≤ 10 → Mp u w1.heap.size ekU evB nm → nm.length ≤ 10 → (∀ s ∈ ats, hasK nm s) → J8 [atv] u := by
    intro atv ats u nm hu ho hal hmn hnm hin
    refine hJ8 _ _ ?_
    have hats := ho.rd encU_ok
    obtain ⟨ta, tc, rfl⟩ := hats.form
    have hplan := plan_small hmayw (by omega) ats (limit := 4096) (first := 1) (by omega) (by omega)
    have hitems := layTo_items its ats 4096 1 its.length
    have hagain := again (its := its) ats 4096 1 its.length (Nat.le_refl _)
    have hfew := kept_few hkw (at_ := ats) (nm := nm.map fun (p : Int × Bool) => p.1) (fun s hs => hin s hs)
    rw [List.length_map] at hfew
    rw [← hims] at hplan
    simp only [nthV_zero]
    refine c21 (of21 (hI.bel hu) hats (by omega) (by omega) hplan fun w2 sa sc la lc b2 r1 r2 => ?_)
    rw [hims] at hplan r1 r2 ⊢
    clear hplan
    have hkl : (keptN its ats its.length).length ≤ its.length := by
      unfold keptN
      exact Nat.le_trans (List.length_filter_le _ _) (by simp)
    generalize layTo its ats 4096 1 its.length = ps at hitems hagain r1 r2 ⊢
    have hstl : ps.steps.length = (keptN its ats its.length).length := by
      have := congrArg List.length hitems
      rwa [List.length_map] at this
    have hu2 := bt hu b2
    have ho2 := ho.bel b2
    have hm2 := hmn.bel b2
    dsimp only at r1 r2 ⊢
    simp
    have hx3 := bx' w2 [.cells #[.slice sa ps.steps.length sc, .slice la ps.seals.length lc] 70]
    have q3 := hp_new w2 (.cells #[.slice sa ps.steps.length sc, .slice la ps.seals.length lc] 70)
    have r1 := r1.bel hx3
    have hu3 := bt hu2 hx3
    have ho3 := ho2.bel hx3
    have hm3 := hm2.bel hx3
    generalize ext w2 [.cells #[.slice sa ps.steps.length sc, .slice la ps.seals.length lc] 70] = w3 at q3 r1 hu3 ho3 hm3 ⊢
    generalize w2.heap.size = q at q3 ⊢
    clear r2 hx3 hu2 ho2 b2 hats ho hm2 hmn
    refine c22 (s22 fun w4 b4 => ?_)
    have q3 := bg b4 q3
    have r1 := r1.bel b4
    have hu3 := bt hu3 b4
    have hats := (ho3.bel b4).rd encU_ok
    have hm3 := hm3.bel b4
    clear ho3 b4 hu
    simp [q3]
    have hI4 := hI.bel hu3
    refine getR (hm3.len Try.underlying82) ?_
    have e5 : IntKind.i64.wrap (5 * (nm.length : Int)) = 5 * (nm.length : Int) := wrap_i64 (by omega) (by omega)
    simp [e5]
    refine ifD (fun h => by omega) (fun _ => ?_)
    -- kept
    refine ⟨fun s z => ∃ (kv : Value) (i : Nat), s = [kv, .int .i64 (i : Nat)] ∧ i ≤ ps.steps.length ∧ Bel w4 z ∧ Own z w4.heap.size 79 4 encIm kv (kimsOf ims (ps.steps.take i)), fun s _ => (ps.steps.length + 1 - n0 s 1).toNat, ⟨_, 0, rfl, by omega, br w4, Own.nil _ _ _ _ _⟩, ?_⟩
    rintro s z ⟨kv, i, rfl, hi, hz, hok⟩
    simp
    refine ifD (fun h1 => ?_) (fun h1 => ?_)
    · obtain ⟨b, o, c2, ⟨off, ho', hsl⟩, hat⟩ := (r1.bel hz).at (List.getElem?_eq_getElem h1)
      injection hsl with hsl _ _
      subst hsl
      have htk : ps.steps.take (i + 1) = ps.steps.take i ++ [ps.steps[i]] := by rw [List.take_succ_eq_append_getElem h1]
      have hxin : ps.steps[i].item < its.length := by
        have : ps.steps[i].item ∈ keptN its ats its.length := by rw [← hitems]; exact List.mem_map.2 ⟨_, List.getElem_mem h1, rfl⟩
        exact (keptN_mem.1 this).1
      rw [idxR (T := 67) (k := 5) (by kernel_rfl) h1, ← ho']
      generalize ps.steps[i] = x at hat htk hxin
      simp [hat.cells0, encSp]
      have hxim : x.item < ims.length := by omega
      obtain ⟨b2, o2, c3, ⟨off2, ho2, hsl2⟩, hat2⟩ := (hI4.rd.bel hz).at (List.getElem?_eq_getElem hxim)
      injection hsl2 with hsl2 _ _
      subst hsl2
      have hgd : ims.getD x.item default = ims[x.item] := by rw [List.getD_eq_getElem?_getD, List.getElem?_eq_getElem hxim]; rfl
      rw [idxR (T := 63) (k := 4) (by kernel_rfl) hxin, ← ho2]
      generalize ims[x.item] = y at hat2 hgd
      have hb2 := bx' z [.cells #[.int .i64 (x.item : Nat), .int .u32 x.to.1, .int .u32 x.to.2, .int .u32 x.prev.1, .int .u32 x.prev.2] 75]
      have hc2 := (hat2.bel hb2).cells0 4 (by decide) (by simp [encIm])
      have ho2' := hok.bel hb2
      have hz2 := bt hz hb2
      generalize ext z [.cells #[.int .i64 (x.item : Nat), .int .u32 x.to.1, .int .u32 x.to.2, .int .u32 x.prev.1, .int .u32 x.prev.2] 75] = z2 at hb2 hc2 ho2' hz2 ⊢
      simp [hc2, encIm]
      have hb3 := bx' z2 [.cells #[.slice y.ka y.it.key.length y.kc, .int .u64 y.it.seq, .int .i64 y.it.kind, .int .i64 y.it.size] 79]
      have g3 := hp_new z2 (.cells #[.slice y.ka y.it.key.length y.kc, .int .u64 y.it.seq, .int .i64 y.it.kind, .int .i64 y.it.size] 79)
      have ho4 := ho2'.bel hb3
      have hu4 := bt hz2 hb3
      rw [e6 (by omega)]
      refine app row63 encIm_ok ho4 (x := y) g3 rfl (by rw [kimsOf_length]; simp; omega) (by rw [kimsOf_length]; simp [maxLen]; omega) hu4.size fun v2 y5 ho5 hg5 hv5 => ?_
      refine ⟨⟨v2, i + 1, ⟨rfl, rfl⟩, h1, grown_bel hg5 hu4 fun g hg => (ho4.ge hg).1, ?_⟩, by simp [n0]; omega⟩
      rw [htk, kimsOf_snoc, hgd]; exact ho5
    obtain rfl : i = ps.steps.length := by omega
    rw [List.take_length] at hok
    have hin2 : ∀ s ∈ ps.steps, s.item < ims.length := fun s hs => by
      have : s.item ∈ keptN its ats its.length := by rw [← hitems]; exact List.mem_map.2 ⟨s, hs, rfl⟩
      have := (keptN_mem.1 this).1
      omega
    have hkit := kimsOf_it hin2
    rw [hims, hitems] at hkit
    have hkln := kimsOf_length ims ps.steps
    have hIz := hI4.bel hz
    have hwz := bt hu3 hz
    have hKI : Items z kv (kimsOf ims ps.steps) := by
      refine ⟨hok.rd encIm_ok, fun x hx hn => ?_, fun x hx c hc => ?_⟩
      · obtain ⟨s, hs, rfl⟩ := List.mem_map.1 hx
        have hlt := hin2 s hs
        have e : ims.getD s.item default = ims[s.item] := by rw [List.getD_eq_getElem?_getD, List.getElem?_eq_getElem hlt]; rfl
        rw [e] at hn ⊢
        exact hIz.key _ (List.getElem_mem hlt) hn
      · obtain ⟨s, hs, rfl⟩ := List.mem_map.1 hx
        have hlt := hin2 s hs
        have e : ims.getD s.item default = ims[s.item] := by rw [List.getD_eq_getElem?_getD, List.getElem?_eq_getElem hlt]; rfl
        rw [e] at hc
        exact hIz.byte _ (List.getElem_mem hlt) c hc
    generalize kimsOf ims ps.steps = kims at hkit hkln hKI
    have hatz := hats.bel hz
    have r1z := r1.bel hz
    have q3z := bg hz q3
    clear hok h1 hi
    have hsubm := subI_may hmp (keptN_up (its := its) (at_ := ats) (n := its.length)) fun i hi => (keptN_mem.1 hi).1
    have hsubl := subI_length its (keptN its ats its.length)
    have hplan2 := plan_small hsubm (by omega) ats (limit := 4096) (first := 1) (by omega) (by omega)
    rw [hsubl] at hplan2
    obtain ⟨g1, g2, g3, g4⟩ := hagain
    rw [← hkit] at hplan2
    refine c21 (of21 hKI hatz (by omega) (by omega) hplan2 fun x2 sb cb lb db b2 p1 p2 => ?_)
    rw [hkit] at p1 ⊢
    generalize layTo (subI its (keptN its ats its.length)) ats 4096 1 (keptN its ats its.length).length = qs at g3 g4 p1 ⊢
    clear p2 hplan2
    have hql : qs.steps.length = ps.steps.length := by
      have := congrArg List.length g4
      simp at this
      omega
    dsimp only at p1 ⊢
    obtain ⟨ka, kc, rfl⟩ := hKI.rd.form
    simp
    have hx3 := bx' x2 [.cells #[.slice sb qs.steps.length cb, .slice lb qs.seals.length db] 70]
    have q4 := hp_new x2 (.cells #[.slice sb qs.steps.length cb, .slice lb qs.seals.length db] 70)
    have p1 := p1.bel hx3
    have bz3 := bt b2 hx3
    have q3z := bg bz3 q3z
    have r1z := r1z.bel bz3
    have hIz := hIz.bel bz3
    have hwz := bt hwz bz3
    generalize ext x2 [.cells #[.slice sb qs.steps.length cb, .slice lb qs.seals.length db] 70] = x3 at q4 p1 q3z r1z hIz hwz ⊢
    generalize x2.heap.size = q2 at q4 ⊢
    clear hx3 b2 bz3 hKI hz hatz
    rw [show (kims.length : Int) = qs.steps.length by omega]
    simp [q4]
    refine ⟨fun st y => ∃ i : Nat, st = [.int .i64 (i : Nat)] ∧ i ≤ qs.steps.length ∧ Bel x3 y, fun st _ => (qs.steps.length + 1 - n0 st 0).toNat, ⟨0, rfl, by omega, br x3⟩, ?_⟩
    rintro st y ⟨i, rfl, hi, hy⟩
    simp
    refine ifD (fun h1 => ?_) (fun h1 => ?_)
    · have h1p : i < ps.steps.length := by omega
      have hxi : qs.steps[i].item = i := by
        have := congrArg (fun l => l[i]?) g4
        simp only [List.getElem?_map] at this
        rw [List.getElem?_eq_getElem h1, List.getElem?_range (by omega)] at this
        simpa using this
      have hxy : qs.steps[i].to = ps.steps[i].to ∧ qs.steps[i].prev = ps.steps[i].prev := by
        have := congrArg (fun l => l[i]?) g3
        simp only [List.getElem?_map] at this
        rw [List.getElem?_eq_getElem h1, List.getElem?_eq_getElem h1p] at this
        simp at this
        exact this
      obtain ⟨b, o, c2, ⟨off, ho', hsl⟩, hat⟩ := (p1.bel hy).at (List.getElem?_eq_getElem h1)
      injection hsl with hsl _ _
      subst hsl
      obtain ⟨b', o', c3, ⟨off', ho2, hsl⟩, hat'⟩ := (r1z.bel hy).at (List.getElem?_eq_getElem h1p)
      injection hsl with hsl _ _
      subst hsl
      rw [idxR (T := 67) (k := 5) (by kernel_rfl) h1, ← ho']
      generalize qs.steps[i] = x at hat hxi hxy
      generalize ps.steps[i] = y' at hat' hxy
      obtain ⟨xi, xt, xp⟩ := x
      obtain ⟨yi, yt, yp⟩ := y'
      obtain ⟨e1, e2⟩ := hxy
      dsimp only at hxi e1 e2
      subst hxi; subst e1; subst e2
      simp [hat.cells0, encSp]
      have hb3 := bx' y [.cells #[.int .i64 (xi : Nat), .int .u32 xt.1, .int .u32 xt.2, .int .u32 xp.1, .int .u32 xp.2] 75]
      have g3' := hp_new y (.cells #[.int .i64 (xi : Nat), .int .u32 xt.1, .int .u32 xt.2, .int .u32 xp.1, .int .u32 xp.2] 75)
      have q3y := bg (bt hy hb3) q3z
      have hat' := hat'.bel hb3
      have hy3 := bt hy hb3
      rw [← drew_ext]
      generalize ext y [.cells #[.int .i64 (xi : Nat), .int .u32 xt.1, .int .u32 xt.2, .int .u32 xp.1, .int .u32 xp.2] 75] = z1 at g3' q3y hat' hy3 ⊢
      generalize y.heap.size = r at g3' ⊢
      have hd := bd (br z1)
      refine drawn' (St0 := Bel z1) hd fun St hS => ?_
      have hSu := (hS z1.drew).2 hd
      rw [readP_iff (fun a ha => bg ((hS a).1 ha) g3') hSu]
      simp
      rw [readP_iff (fun a ha => bg ((hS a).1 ha) g3') hSu]
      simp
      rw [readP_iff (fun a ha => bg ((hS a).1 ha) q3y) hSu]
      simp
      rw [idxR (T := 67) (k := 5) (by kernel_rfl) h1p, ← ho2]
      simp
      refine ⟨.agg #[.int .u32 xt.1, .int .u32 xt.2], fun a ha => ?_, ?_⟩
      · have := (hat'.bel ((hS a).1 ha)).cells 1 2 (by decide) (by simp [encSp])
        simp only [loadW_ptr, shape_34, ldSh_agg, this]; rfl
      simp
      rw [readP_iff (fun a ha => bg ((hS a).1 ha) g3') hSu]
      simp
      rw [readP_iff (fun a ha => bg ((hS a).1 ha) q3y) hSu]
      simp
      rw [idxR (T := 67) (k := 5) (by kernel_rfl) h1p, ← ho2]
      simp
      refine ⟨.agg #[.int .u32 xp.1, .int .u32 xp.2], fun a ha => ?_, ?_⟩
      · have := (hat'.bel ((hS a).1 ha)).cells 3 2 (by decide) (by simp [encSp])
        simp only [loadW_ptr, shape_34, ldSh_agg, this]; rfl
      simp
      rw [e6 (by omega)]
      exact ⟨⟨xi + 1, rfl, h1, bt hy3 hd⟩, by simp [n0]; omega⟩
    have hIy := hIz.bel hy
    have hwy := bt hwz hy
    clear p1 r1z q3z q4 g1 g2 g3 g4 h1 hi
    refine mkmap ?_
    have hm2 := Mp.new y ekB ek3
    have hy2 := bx' y [.map #[] 0]
    refine ⟨fun st u => ∃ (ev : Value) (i : Nat) (fm : List (Int × Int)), st = [ev, .int .i64 ((keptN its (its.map Itm.seq) i).length : Nat), .int .i64 (i : Nat)] ∧ i ≤ its.length ∧ Bel y u ∧ Own u y.heap.size 35 1 encU ev ((its.take i).map Itm.seq) ∧ Mp u y.heap.size ekB ek3 fm ∧ ∀ c : Nat, look (c : Int) fm = if hasPut its i c then some 1 else none, fun st _ => (its.length + 1 - n0 st 2).toNat, ⟨_, 0, [], rfl, by omega, hy2, Own.nil _ _ _ _ _, hm2, fun c => rfl⟩, ?_⟩
    rintro st u ⟨ev, i, fm, rfl, hi, hu, hoe, hfm, hfl⟩
    simp
    refine ifD (fun h1 => ?_) (fun h1 => ?_)
    · have h1m : i < ims.length := by omega
      have hget := List.getElem?_eq_getElem h1m
      have hits := its_at hget
      rw [hims] at hits
      have hxm := List.getElem_mem h1m
      obtain ⟨d, hd, hd5⟩ := hkm _ hxm
      have hbs := hIy.key _ hxm (by rw [hd]; simp)
      have hkc : kcOf its i = d := by unfold kcOf; rw [hits, hd]; rfl
      have hkh := kept_hasPut hkw hmp h1
      have hps := hasPut_succ its i
      have hks := keptN_succ its (its.map Itm.seq) i
      rw [hits] at hkh hps
      rw [hkc] at hkh hps
      have htk : (its.take (i + 1)).map Itm.seq = (its.take i).map Itm.seq ++ [ims[i].it.seq] := by
        rw [List.take_succ_eq_append_getElem h1, List.map_append, ← hits, List.getD_eq_getElem?_getD, List.getElem?_eq_getElem h1]; rfl
      obtain ⟨b, o, c2, ⟨off, ho', hsl⟩, hat⟩ := (hIy.rd.bel hu).at hget
      injection hsl with hsl _ _
      subst hsl
      rw [idxR (T := 63) (k := 4) (by kernel_rfl) h1, ← ho']
      generalize ims[i] = x at hat hd hbs hkh hps htk
      simp [hat.cells0, encIm]
      have hb3 := bx' u [.cells #[.slice x.ka x.it.key.length x.kc, .int .u64 x.it.seq, .int .i64 x.it.kind, .int .i64 x.it.size] 79, .cells #[.int .u64 x.it.seq] 35]
      have g3 := hp_ext_at (w := u) (L := [.cells #[.slice x.ka x.it.key.length x.kc, .int .u64 x.it.seq, .int .i64 x.it.kind, .int .i64 x.it.size] 79, .cells #[.int .u64 x.it.seq] 35]) (i := 0) rfl
      have g4 := hp_ext_at (w := u) (L := [.cells #[.slice x.ka x.it.key.length x.kc, .int .u64 x.it.seq, .int .i64 x.it.kind, .int .i64 x.it.size] 79, .cells #[.int .u64 x.it.seq] 35]) (i := 1) rfl
      rw [Nat.add_zero] at g3
      have ho4 := hoe.bel hb3
      have hu4 := bt hu hb3
      have hfm4 := hfm.bel hb3
      generalize ext u [.cells #[.slice x.ka x.it.key.length x.kc, .int .u64 x.it.seq, .int .i64 x.it.kind, .int .i64 x.it.size] 79, .cells #[.int .u64 x.it.seq] 35] = u4 at g3 g4 ho4 hu4 hfm4 ⊢
      generalize u.heap.size = r at g3 g4 ⊢
      have e6i := e6 (k := i) (by omega)
      rw [e6i]
      refine app row66 encU_ok ho4 (x := x.it.seq) g4 rfl (by simp; omega) (by simp [maxLen]; omega) hu4.size fun v2 y5 ho5 hg5 hv5 => ?_
      obtain ⟨es, cl, hmap, _⟩ := id hfm4
      have nr := ho4.ne hmap (by intro cur e; cases e)
      have ng := ho4.ne g3 (by intro cur e; injection e with _ e; cases e)
      have hfm5 := hfm4.keep (hg5.block _ hfm4.lt nr)
      have g5 := grown_hp hg5 g3 ng
      have hu5 : Bel y y5 := grown_bel hg5 hu4 fun g hg => (ho4.ge hg).1
      have hbs5 := hbs.bel hu5
      rw [← htk] at ho5
      refine join_of fun J118 hJ118 => ?_
      have hkn : (keptN its (its.map Itm.seq) i).length ≤ i := by
        unfold keptN
        exact Nat.le_trans (List.length_filter_le _ _) (by simp)
      have key118 : J118 [.bool (keptB its (its.map Itm.seq) i)] y5 := by
        refine hJ118 _ _ ?_
        simp [g5]
        refine ifB (fun h2 => ?_) (fun h2 => ?_)
        · refine keyByte hbs5 hd ?_
          obtain ⟨es5, cl5, hmap5, _⟩ := id hfm5
          refine mupd (k := (d : Int)) (v := (1 : Int)) (ek := ekB) (ev := ek3) keyB Try.underlying80 hfm5 ?_
          rintro o1 _ hm6
          rw [h2, if_pos rfl] at hks
          have e6c := e6 (k := (keptN its (its.map Itm.seq) i).length) (by omega)
          rw [e6c]
          refine ⟨⟨v2, i + 1, ⟨rfl, by omega, rfl⟩, h1, bu hu5 (Nat.le_refl _) _, by simpa using ho5.upd hmap5 o1, _, hm6, fun c => ?_⟩, by simp [n0]; omega⟩
          rw [look_put, hps c]
          by_cases hc : c = d
          · subst hc
            rw [if_pos rfl]
            rw [h2] at hkh
            rw [decide_eq_true rfl, Bool.true_and, ← hkh]; rfl
          · rw [if_neg (by omega), hfl c, decide_eq_false (Ne.symm hc), Bool.false_and, Bool.or_false]
        · rw [h2] at hks hkh
          refine ⟨⟨v2, i + 1, ⟨rfl, by have := hks; simp at this; omega, rfl⟩, h1, hu5, by simpa using ho5, fm, hfm5, fun c => ?_⟩, by simp [n0]; omega⟩
          rw [hfl c, hps c]
          by_cases hc : c = d
          · subst hc
            have hkh := hkh.symm
            rw [Bool.or_eq_false_iff] at hkh
            rw [hkh.1, hkh.2]; simp
          · rw [decide_eq_false (Ne.symm hc), Bool.false_and, Bool.or_false]
      simp [g5]
      refine ifD (fun h2 => ?_) (fun h2 => ?_)
      · rw [hkh, decide_eq_true h2, Bool.or_true] at key118
        exact key118
      · refine keyByte hbs5 hd ?_
        refine getR (run_look (k := (d : Int)) (z := (0 : Int)) (ek := ekB) (ev := ek3) (E := 3) keyB Try.underlying80 zero_3 hfm5 false) ?_
        rw [hfl d]
        rw [hkh, decide_eq_false h2, Bool.or_false] at key118
        cases hpd : hasPut its i d with
        | true => rw [hpd] at key118; simpa [ek3] using key118
        | false => rw [hpd] at key118; simpa [ek3] using key118
    obtain rfl : i = its.length := by omega
    rw [List.take_length] at hoe
    have hev := hoe.rd encU_ok
    have hplan3 := plan_small hmayw (by omega) (its.map Itm.seq) (limit := 4096) (first := 1) (by omega) (by omega)
    have hitems3 := layTo_items its (its.map Itm.seq) 4096 1 its.length
    have hplan3 : planOf (ims.map Im.it) (its.map Itm.seq) 4096 1 = ((layTo its (its.map Itm.seq) 4096 1 its.length).steps, (layTo its (its.map Itm.seq) 4096 1 its.length).seals, 0) := by rw [hims]; exact hplan3
    refine c21 (of21 (hIy.bel hu) hev (by omega) (by simp <;> omega) hplan3 fun t1 sd cd ld dd b3 r3 _ => ?_)
    simp
    have hlast : (layTo its (its.map Itm.seq) 4096 1 its.length).steps.length = (keptN its (its.map Itm.seq) its.length).length := by
      have := congrArg List.length hitems3
      rwa [List.length_map] at this
    simp [hlast]
    exact hR _ (bt b1 (bt hwy (bt hu (bt b3 (bx' _ _)))))
  refine ⟨fun s u => ∃ (v' : Value) (i : Nat) (ats : List Int) (nm : List (Int × Bool)), s = [v', .int .i64 (i : Nat)] ∧ i ≤ 10 ∧ i ≤ nb.length ∧ Bel w1 u ∧ Own u w1.heap.size 35 1 encU v' ats ∧ ats.length = i ∧ Mp u w1.heap.size ekU evB nm ∧ nm.length ≤ i ∧ (∀ s ∈ ats, hasK nm s), fun s _ => (11 - n0 s 1).toNat, ⟨_, 0, [], [], rfl, by omega, by omega, hw0, Own.nil _ _ _ _ _, rfl, hm0, Nat.le_refl _, fun s h => by simp at h⟩, ?_⟩
  rintro s u ⟨v', i, ats, nm, rfl, hi, hin, hu, ho, hal, hmn, hnl10, hin'⟩
  simp
  refine ifD (fun h1 => ?_) (fun h1 => key8 v' ats u nm hu ho (by omega) hmn (by omega) hin')
  obtain ⟨b, o, c2, ⟨off, ho', hsl⟩, hat⟩ := (hb.bel (bt b1 hu)).at (List.getElem?_eq_getElem h1)
  injection hsl with hsl _ _
  subst hsl
  have hx := hnb _ (List.getElem_mem h1)
  rw [idxR (T := 36) (k := 1) (by kernel_rfl) h1, ← ho']
  generalize nb[i] = x at hat hx
  simp [hat.cell0, encBt]
  refine ifD (fun h2 => key8 v' ats u nm hu ho (by omega) hmn (by omega) hin') (fun h2 => ?_)
  have e1 : x % 18446744073709551616 = x := by omega
  rw [e1]
  have hb3 := bx' u [.cells #[.int .u64 x] 35]
  have g3 := hp_new u (.cells #[.int .u64 x] 35)
  have ho3 := ho.bel hb3
  have hu3 := bt hu hb3
  have hm3 := hmn.bel hb3
  rw [e6 (by omega)]
  refine app row66 encU_ok ho3 (x := x) g3 rfl (by omega) (by simp only [maxLen]; omega) hu3.size fun v2 y5 ho5 hg5 hv5 => ?_
  obtain ⟨es, cl, hmap, _⟩ := id hm3
  have nr := ho3.ne hmap (by intro cur e; cases e)
  have hm5 := hm3.keep (hg5.block _ hm3.lt nr)
  obtain ⟨es5, cl5, hmap5, _⟩ := id hm5
  have hu5 : Bel w1 y5 := grown_bel hg5 hu3 fun g hg => (ho3.ge hg).1
  refine mupd (k := x) (v := true) (ek := ekU) (ev := evB) key35 Try.underlying82 hm5 ?_
  rintro o1 _ hm6
  refine ⟨⟨v2, i + 1, ⟨rfl, rfl⟩, by omega, h1, bu hu5 (Nat.le_refl _) _, _, ho5.upd hmap5 o1, by simp [hal], _, hm6, ?_, ?_⟩, by simp [n0]; omega⟩
  · rw [put_length]; split <;> omega
  · intro s hs
    have hmem : ∀ s, s ∈ (put x true nm).map (·.1) ↔ s = x ∨ s ∈ nm.map (·.1) := by
      intro s
      have h1 := look_none_iff (k := s) (l := put x true nm)
      have h2 := look_none_iff (k := s) (l := nm)
      rw [look_put] at h1
      by_cases hsx : s = x
      · rw [if_pos hsx] at h1
        simp [hsx]
        have : s ∈ (put x true nm).map (·.1) := by
          apply Decidable.byContradiction; intro hh; have := h1.2 hh; cases this
        rw [hsx] at this
        simpa using this
      · rw [if_neg hsx] at h1
        constructor
        · intro hh
          right
          apply Decidable.byContradiction
          intro hn
          exact h1.1 (h2.2 hn) hh
        · rintro (hh | hh)
          · exact absurd hh hsx
          · apply Decidable.byContradiction
            intro hn
            exact h2.1 (h1.2 hn) hh
    unfold hasK
    rw [hmem]
    rcases List.mem_append.1 hs with hs | hs
    · exact .inr (hin' s hs)
    · left; simpa using hs
end Go.Proofs.Ytbcmoikpmmjlkaa
