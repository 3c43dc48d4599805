/- Law 25: PlanStays answers true. -/
import Derived.Test.YtbcmoikpmmjlkaaPB
namespace Go.Proofs.Ytbcmoikpmmjlkaa
open Go Eng
set_option maxRecDepth 100000
def encBt (n : Int) : List Value := [.int .u8 n]
theorem encBt_ok : Enc 1 encBt := ⟨fun _ => rfl, fun x u hu => by simp [encBt] at hu; subst hu; rfl, by decide⟩
theorem row66 : RowT 66 35 1 8 := ⟨Try.underlying66, by kernel_rfl⟩
def ek3 (i : Int) : Value := .int .i64 i
theorem key3 : KeyOk 3 ek3 where
  eq a b w := by
    show (Op.equalIn (9999 + 1) 3 _ _).run Pg w = _
    unfold Op.equalIn
    simp [ek3, run_und Try.underlying3, Result.andThen]
    rfl
  now := ⟨_, Try.underlying3, .inr fun a b => by simp [ek3, Instr.sameNow]; rfl⟩
  check f a w := by
    show (Instr.checkKey f (9999 + 1) 3 _).run Pg w = _
    unfold Instr.checkKey
    simp [ek3, run_und Try.underlying3, Result.andThen]
  bits a := by simp [ek3, Instr.sameBits]
/-- plan.Of, its slices in full. -/
theorem of21 {w : World} {v av : Value} {ims : List Im} {at_ : List Int} {limit first : Int} (h : Items w v ims) (ha : Rd w 1 encU av at_) (hl : ims.length ≤ 100000) (hl2 : at_.length ≤ 100000) {P : List Sp × List Sl × Int} (hP : planOf (ims.map Im.it) at_ limit first = P) {R : Value → World → Prop}
    (hR : ∀ w' sa sc la lc, Bel w w' → Rd w' 5 encSp (.slice sa P.1.length sc) P.1 → Rd w' 5 encSl (.slice la P.2.1.length lc) P.2.1 → R (.tuple #[.agg #[.slice sa P.1.length sc, .slice la P.2.1.length lc], .int .i64 P.2.2]) w') :
    F21 v av (.int .i64 limit) (.int .u32 first) w R := by
  refine s21 h ha hl hl2 fun w' sv lv b h1 h2 => ?_
  rw [hP] at h1 h2 ⊢
  obtain ⟨sa, sc, rfl⟩ := h1.form
  obtain ⟨la, lc, rfl⟩ := h2.form
  exact hR w' sa sc la lc b h1 h2
theorem kindAt {w : World} {v : Value} {ims : List Im} (h : Items w v ims) {i : Nat} (hi : i < ims.length) {St : World → Prop} (hSt : ∀ a, St a → Bel w a) {K : Value → Prop} (k : K (.int .i64 ((ims.map Im.it).getD i default).kind)) :
    pureP Pg (Instr.indexAt 63 v (.int .i64 (i : Nat))) fun p => pureP Pg (Instr.fieldAt 79 p 2) fun q => readP St (loadW Pg 3 q) K := by
  have hget := List.getElem?_eq_getElem hi
  obtain ⟨b, o, c, ⟨off, ho, rfl⟩, hat⟩ := h.rd.at hget
  rw [its_at hget] at k
  rw [idxR (T := 63) (k := 4) (by kernel_rfl) hi, ← ho]
  simp
  refine ⟨_, fun a ha => ?_, k⟩
  have := (hat.bel (hSt a ha)).cell 2 (by simp [encIm])
  simp only [loadW_ptr, shape_3, ldSh_one, this]; rfl
theorem kindG {w u : World} {v : Value} {ims : List Im} (h : Items w v ims) {i : Nat} (hi : i < ims.length) (hu : Bel w u) {K : Value → Prop} (k : K (.int .i64 ((ims.map Im.it).getD i default).kind)) :
    pureP Pg (Instr.indexAt 63 v (.int .i64 (i : Nat))) fun p => pureP Pg (Instr.fieldAt 79 p 2) fun q => getO (loadW Pg 3 q u) K := by
  have hget := List.getElem?_eq_getElem hi
  obtain ⟨b, o, c, ⟨off, ho, rfl⟩, hat⟩ := h.rd.at hget
  rw [its_at hget] at k
  rw [idxR (T := 63) (k := 4) (by kernel_rfl) hi, ← ho]
  simp
  have := (hat.bel hu).cell 2 (by simp [encIm])
  rw [this]
  simp [encIm]
  exact k
theorem keyG {w u : World} {v : Value} {ims : List Im} (h : Items w v ims) (hk : ∀ x ∈ ims, ∃ c : Nat, x.it.key = [107, c] ∧ c < 5) {i : Nat} (hi : i < ims.length) (hu : Bel w u) {K : Value → Prop} (k : K (.int .u8 (kcOf (ims.map Im.it) i : Nat))) :
    pureP Pg (Instr.indexAt 63 v (.int .i64 (i : Nat))) fun p => pureP Pg (Instr.fieldAt 79 p 0) fun q => getO (loadW Pg 36 q u) fun kv => pureP Pg (Instr.indexAt 36 kv (.int .i64 1)) fun p2 => getO (loadW Pg 5 p2 u) K := by
  have hget := List.getElem?_eq_getElem hi
  obtain ⟨b, o, c, ⟨off, ho, rfl⟩, hat⟩ := h.rd.at hget
  have hxm := List.getElem_mem hi
  obtain ⟨d, hd, _⟩ := hk _ hxm
  have hbs := h.key _ hxm (by rw [hd]; simp)
  have hkc : kcOf (ims.map Im.it) i = d := by unfold kcOf; rw [its_at hget, hd]; rfl
  rw [hkc] at k
  rw [idxR (T := 63) (k := 4) (by kernel_rfl) hi, ← ho]
  generalize ims[i] = x at hat hd hbs
  simp
  have := (hat.bel hu).cell0 (by simp [encIm])
  rw [this]
  simp [encIm]
  exact keyByte (hbs.bel hu) hd k
/-- What is marked as used so far. -/
def Used (its : List Itm) (ats : List Int) (um : List (Int × Int)) (j k : Nat) : Prop :=
  (∀ (j' c : Nat) (s : Int), j' < j → ats[j']? = some s → c < 5 → ∀ i : Nat, newestL its (List.range its.length) c s = i → look (i : Int) um = some 1) ∧
  (∀ (c : Nat) (s : Int), ats[j]? = some s → c < k → ∀ i : Nat, newestL its (List.range its.length) c s = i → look (i : Int) um = some 1)
theorem Used.put {its : List Itm} {ats : List Int} {um : List (Int × Int)} {j k : Nat} (h : Used its ats um j k) {s : Int} (hs : ats[j]? = some s) {i : Nat} (hi : newestL its (List.range its.length) k s = i) : Used its ats (put (i : Int) 1 um) j (k + 1) := by
  constructor
  · intro j' c s' h1 h2 h3 i' h4
    rw [look_put]
    split
    · rfl
    · exact h.1 j' c s' h1 h2 h3 i' h4
  · intro c s' h1 h2 i' h3
    rw [look_put]
    split
    · rfl
    · rename_i hne
      rcases Nat.lt_or_ge c k with h4 | h4
      · exact h.2 c s' h1 h4 i' h3
      · obtain rfl : c = k := by omega
        rw [hs] at h1; injection h1 with h1; subst h1
        rw [hi] at h3
        exact absurd h3.symm hne
theorem Used.skip {its : List Itm} {ats : List Int} {um : List (Int × Int)} {j k : Nat} (h : Used its ats um j k) {s : Int} (hs : ats[j]? = some s) (hi : newestL its (List.range its.length) k s = -1) : Used its ats um j (k + 1) := by
  refine ⟨h.1, fun c s' h1 h2 i' h3 => ?_⟩
  rcases Nat.lt_or_ge c k with h4 | h4
  · exact h.2 c s' h1 h4 i' h3
  · obtain rfl : c = k := by omega
    rw [hs] at h1; injection h1 with h1; subst h1
    rw [hi] at h3; omega
theorem Used.next {its : List Itm} {ats : List Int} {um : List (Int × Int)} {j : Nat} (h : Used its ats um j 5) : Used its ats um (j + 1) 0 := by
  refine ⟨fun j' c s' h1 h2 h3 i' h4 => ?_, fun c s' _ h2 => by omega⟩
  rcases Nat.lt_or_ge j' j with h5 | h5
  · exact h.1 j' c s' h5 h2 h3 i' h4
  · obtain rfl : j' = j := by omega
    exact h.2 c s' h2 h3 i' h4
set_option maxHeartbeats 1000000 in
/-- PlanStays. -/
theorem s5 {w : World} {av bv : Value} {l : List Wr} {nb : List Int} {lim : Int} (ha : Rd w 4 encWr av l) (hl : ∀ x ∈ l, x.ok) (hb : Rd w 1 encBt bv nb) (hnb : ∀ x ∈ nb, 0 ≤ x ∧ x ≤ 255) (hlim : 0 ≤ lim ∧ lim ≤ 65535) {R : Value → World → Prop} (hR : ∀ w', Bel w w' → R (.bool true) w') : F5 av bv (.int .u16 lim) w R := by
  obtain ⟨ba, bc, rfl⟩ := hb.form
  unfold F5
  refine c20 (s20 ha hl fun w1 v1 ims b1 hI hims => ?_)
  have hlw : (l.take 60).length ≤ 60 := by simp; omega
  have hokw : ∀ x ∈ l.take 60, x.ok := fun x hx => hl x (List.mem_of_mem_take hx)
  have hsq := seqW_bounds _ hokw
  have hmayw := (itemsW_may _ hokw (by omega)).1
  have hkw := itemsW_key _ hokw
  have hnw := itemsW_length (l.take 60)
  generalize seqW (l.take 60) = L at hsq ⊢
  generalize itemsW (l.take 60) = its at hims hmayw hkw hnw
  have hnl : ims.length = its.length := by rw [← hims]; simp
  have hkm : ∀ x ∈ ims, ∃ c : Nat, x.it.key = [107, c] ∧ c < 5 := fun x hx => hkw _ (by rw [← hims]; exact List.mem_map.2 ⟨x, hx, rfl⟩)
  obtain ⟨va, vc, rfl⟩ := hI.rd.form
  rw [hnl] at hI ⊢
  simp
  refine join_of fun J6 hJ6 => ?_
  have key6 : ∀ atv ats u, Bel w1 u → Own u w1.heap.size 35 1 encU atv ats → ats.length ≤ 10 → J6 [atv] u := by
    intro atv ats u hu ho hal
    refine hJ6 _ _ ?_
    have hats := ho.rd encU_ok
    obtain ⟨ta, tc, rfl⟩ := hats.form
    have e1 : IntKind.i64.wrap lim = lim := wrap_i64 (by omega) (by omega)
    have e2 : lim.tmod 9000 = lim % 9000 := Int.tmod_eq_emod_of_nonneg hlim.1
    have e3 : IntKind.i64.wrap (4096 + lim % 9000) = 4096 + lim % 9000 := wrap_i64 (by omega) (by omega)
    simp [e1]
    refine (pure_rem _ _ _ _ _ _ (by decide)).2 ?_
    rw [e2]
    simp [e3]
    have hplan := plan_small hmayw (by omega) ats (limit := 4096 + lim % 9000) (first := 3) (by omega) (by omega)
    have hitems := layTo_items its ats (4096 + lim % 9000) 3 its.length
    rw [← hims] at hplan
    refine c21 (of21 (hI.bel hu) hats (by omega) (by omega) hplan fun w2 sa sc la lc b2 r1 r2 => ?_)
    rw [hims] at hplan r1 r2 ⊢
    clear hplan
    generalize layTo its ats (4096 + lim % 9000) 3 its.length = ps at hitems r1 r2 ⊢
    have hu2 := bt hu b2
    have ho2 := ho.bel b2
    dsimp only at r1 r2 ⊢
    simp
    have hx3 := bx' w2 [.cells #[.slice sa ps.steps.length sc, .slice la ps.seals.length lc] 70]
    have q3 := hp_new w2 (.cells #[.slice sa ps.steps.length sc, .slice la ps.seals.length lc] 70)
    have r1 := r1.bel hx3
    have hu3 := bt hu2 hx3
    have ho3 := ho2.bel hx3
    generalize ext w2 [.cells #[.slice sa ps.steps.length sc, .slice la ps.seals.length lc] 70] = w3 at q3 r1 hu3 ho3 ⊢
    generalize w2.heap.size = q at q3 ⊢
    clear r2 hx3 hu2 ho2 b2 hats ho
    refine c22 (s22 fun w4 b4 => ?_)
    have q3 := bg b4 q3
    have r1 := r1.bel b4
    have hu3 := bt hu3 b4
    have hats := (ho3.bel b4).rd encU_ok
    clear ho3 b4 hu
    simp
    have hI4 := hI.bel hu3
    -- every
    refine ⟨fun s y => ∃ (ev : Value) (i : Nat), s = [ev, .int .i64 (i : Nat)] ∧ i ≤ its.length ∧ Bel w4 y ∧ Own y w4.heap.size 3 1 encI ev (List.range i), fun s _ => (its.length + 1 - n0 s 1).toNat, ⟨_, 0, rfl, by omega, br w4, Own.nil _ _ _ _ _⟩, ?_⟩
    rintro s y ⟨ev, i, rfl, hi, hy, hoe⟩
    have e6 : ∀ {k : Nat}, k ≤ 1000 → IntKind.i64.wrap ((k : Int) + 1) = ((k + 1 : Nat) : Int) := fun h => i64_succ (by omega)
    simp
    refine ifD (fun h1 => ?_) (fun h1 => ?_)
    · have hb3 := bx' y [.cells #[.int .i64 (i : Nat)] 3]
      have g3 := hp_new y (.cells #[.int .i64 (i : Nat)] 3)
      have ho4 := hoe.bel hb3
      have hu4 := bt hy hb3
      rw [e6 (by omega)]
      refine app row73 encI_ok ho4 (x := i) g3 rfl (by simp; omega) (by simp [maxLen]; omega) hu4.size fun v2 y5 ho5 hg5 hv5 => ?_
      exact ⟨⟨v2, i + 1, ⟨rfl, rfl⟩, h1, grown_bel hg5 hu4 fun g hg => (ho4.ge hg).1, by rw [List.range_succ]; exact ho5⟩, by simp [n0]; omega⟩
    obtain rfl : i = its.length := by omega
    have hev := hoe.rd encI_ok
    have q3 := bg hy q3
    have r1 := r1.bel hy
    have hats := hats.bel hy
    have hI5 := hI4.bel hy
    have hu5 := bt hu3 hy
    clear hI4 hu3 hoe hy h1 hi
    simp [q3]
    -- kept
    refine ⟨fun s z => ∃ (kv : Value) (i : Nat), s = [kv, .int .i64 (i : Nat)] ∧ i ≤ ps.steps.length ∧ Bel y z ∧ Own z y.heap.size 3 1 encI kv ((ps.steps.take i).map Sp.item), fun s _ => (ps.steps.length + 1 - n0 s 1).toNat, ⟨_, 0, rfl, by omega, br y, Own.nil _ _ _ _ _⟩, ?_⟩
    rintro s z ⟨kv, i, rfl, hi, hz, hok⟩
    simp
    have hstl : ps.steps.length ≤ its.length := by
      have := congrArg List.length hitems
      rw [List.length_map] at this
      rw [this]
      unfold keptN
      exact Nat.le_trans (List.length_filter_le _ _) (by simp)
    refine ifD (fun h1 => ?_) (fun h1 => ?_)
    · obtain ⟨b, o, c2, ⟨off, ho', hsl⟩, hat⟩ := (r1.bel hz).at (List.getElem?_eq_getElem h1)
      injection hsl with hsl _ _
      subst hsl
      have htk : ps.steps.take (i + 1) = ps.steps.take i ++ [ps.steps[i]] := by rw [List.take_succ_eq_append_getElem h1]
      rw [idxR (T := 67) (k := 5) (by kernel_rfl) h1, ← ho']
      generalize ps.steps[i] = x at hat htk
      simp [hat.cells0, encSp]
      have hb3 := bx' z [.cells #[.int .i64 (x.item : Nat), .int .u32 x.to.1, .int .u32 x.to.2, .int .u32 x.prev.1, .int .u32 x.prev.2] 75, .cells #[.int .i64 (x.item : Nat)] 3]
      have g3 := hp_ext_at (w := z) (L := [.cells #[.int .i64 (x.item : Nat), .int .u32 x.to.1, .int .u32 x.to.2, .int .u32 x.prev.1, .int .u32 x.prev.2] 75, .cells #[.int .i64 (x.item : Nat)] 3]) (i := 1) rfl
      have ho4 := hok.bel hb3
      have hu4 := bt hz hb3
      rw [e6 (by omega)]
      refine app row73 encI_ok ho4 (x := x.item) g3 rfl (by simp; omega) (by simp [maxLen]; omega) hu4.size fun v2 y5 ho5 hg5 hv5 => ?_
      refine ⟨⟨v2, i + 1, ⟨rfl, rfl⟩, h1, grown_bel hg5 hu4 fun g hg => (ho4.ge hg).1, ?_⟩, by simp [n0]; omega⟩
      rw [← List.map_take, htk, List.map_append]; exact ho5
    obtain rfl : i = ps.steps.length := by omega
    rw [List.take_length, hitems] at hok
    have hkv := hok.rd encI_ok
    have hev := hev.bel hz
    have hats := hats.bel hz
    have hI6 := hI5.bel hz
    have hu6 := bt hu5 hz
    clear hI5 hu5 hok hz h1 hi r1 q3
    obtain ⟨ea, ec, rfl⟩ := hev.form
    obtain ⟨ka, kc, rfl⟩ := hkv.form
    rw [List.length_range] at hev ⊢
    refine mkmap ?_
    have hm1 := Mp.new z ek3 ek3
    have hz1 := bx' z [.map #[] 0]
    have hmp := mayP_of (Int.le_refl 0) hmayw
    have hrl : (List.range its.length).length = its.length := by simp [hnl]
    have hkl : (keptN its ats its.length).length ≤ its.length := by
      unfold keptN
      exact Nat.le_trans (List.length_filter_le _ _) (by simp)
    refine ⟨fun st y => ∃ j : Nat, st = [.int .i64 (j : Nat)] ∧ j ≤ ats.length ∧ Bel z y ∧ ∃ um, Mp y z.heap.size ek3 ek3 um ∧ Used its ats um j 0, fun st _ => (ats.length + 1 - n0 st 0).toNat, ⟨0, rfl, by omega, hz1, [], hm1, fun j' c s' h => by omega, fun c s' _ h => by omega⟩, ?_⟩
    rintro st y1 ⟨j, rfl, hj, hy1, um1, hum1, hus1⟩
    simp
    refine ifD (fun h1 => ?_) (fun h1 => ?_)
    · obtain ⟨b, o, c2, ⟨off, ho', hsl⟩, hat⟩ := (hats.bel hy1).at (List.getElem?_eq_getElem h1)
      injection hsl with hsl _ _
      subst hsl
      have hsget := List.getElem?_eq_getElem h1
      have hsm := List.getElem_mem h1
      rw [idxR (T := 66) (k := 1) (by kernel_rfl) h1, ← ho']
      generalize ats[j] = s at hat hsget hsm
      simp [hat.cell0, encU]
      refine ⟨fun st y => ∃ c : Nat, st = [.int .u64 (c : Nat)] ∧ c ≤ 5 ∧ Bel z y ∧ ∃ um, Mp y z.heap.size ek3 ek3 um ∧ Used its ats um j c, fun st _ => (6 - n0 st 0).toNat, ⟨0, rfl, by omega, hy1, um1, hum1, hus1⟩, ?_⟩
      rintro st y ⟨c, rfl, hc, hy, um, hum, hus⟩
      simp
      refine ifD (fun h2 => ?_) (fun h2 => ?_)
      · have hIy := hI6.bel hy
        have e1 : ((c : Int) + 1) % 18446744073709551616 = ((c + 1 : Nat) : Int) := by omega
        refine c23 (s23 (among := List.range its.length) hIy (hev.bel hy) (fun i hi => by rw [hnl]; exact List.mem_range.1 hi) hkm (by omega) ?_)
        refine c23 (s23 (among := keptN its ats its.length) hIy (hkv.bel hy) (fun i hi => by rw [hnl]; exact (keptN_mem.1 hi).1) hkm (by omega) ?_)
        rw [hims, e1]
        have hst := stays hkw hmp hsm c
        have spA := newestL_spec its c s (List.range its.length) List.pairwise_lt_range
        have spB := newestL_spec its c s (keptN its ats its.length) keptN_up
        have huse := fun i => hus.put (i := i) hsget
        have hskip := hus.skip hsget
        generalize newestL its (List.range its.length) c s = A at hst spA huse hskip ⊢
        generalize newestL its (keptN its ats its.length) c s = B at hst spB ⊢
        have hyd := bd (br y)
        refine join_of fun J108 hJ108 => ?_
        have key108 : J108 [.bool (putAt its A), .bool (putAt its B)] y.drew := by
          refine hJ108 _ _ ?_
          have hupd : ifV (.bool (decide (0 ≤ A))) (U Pg (Instr.mapUpdate 76 (.map (some z.heap.size)) (.int .i64 A) (.int .i64 1)) y.drew fun w_1 => (∃ c_1 : Nat, ((c + 1 : Nat) : Int) = (c_1 : Int) ∧ c_1 ≤ 5 ∧ Bel z w_1 ∧ ∃ um, Mp w_1 z.heap.size ek3 ek3 um ∧ Used its ats um j c_1) ∧ max (6 - n0 [.int .u64 ((c + 1 : Nat) : Int)] 0) 0 < 6 - n0 [.int .u64 (c : Nat)] 0)
              ((∃ c_1 : Nat, ((c + 1 : Nat) : Int) = (c_1 : Int) ∧ c_1 ≤ 5 ∧ Bel z y.drew ∧ ∃ um, Mp y.drew z.heap.size ek3 ek3 um ∧ Used its ats um j c_1) ∧ max (6 - n0 [.int .u64 ((c + 1 : Nat) : Int)] 0) 0 < 6 - n0 [.int .u64 (c : Nat)] 0) := by
            refine ifD (fun h3 => ?_) (fun h3 => ?_)
            · obtain ⟨i, rfl⟩ : ∃ i : Nat, A = i := ⟨A.toNat, by omega⟩
              refine mupd (k := (i : Int)) (v := (1 : Int)) (ek := ek3) (ev := ek3) key3 Try.underlying76 (hum.bel hyd) ?_
              rintro o1 _ hm'
              exact ⟨⟨c + 1, rfl, by omega, bu (bt hy hyd) (Nat.le_refl _) _, _, hm', huse i rfl⟩, by simp [n0]; omega⟩
            · have hA : A = -1 := by
                rcases spA with ⟨a1, _⟩ | ⟨i, a1, _⟩
                · exact a1
                · omega
              exact ⟨⟨c + 1, rfl, by omega, bt hy hyd, um, hum.bel hyd, hskip hA⟩, by simp [n0]; omega⟩
          simp
          rw [hst.1]
          simp
          refine ifB (fun h3 => ?_) (fun h3 => ?_)
          · have hAB := hst.2 (by rw [hst.1]; exact h3)
            subst hAB
            simp
            exact hupd
          · exact hupd
        refine drawn' (St0 := Bel y) hyd fun St hS => ?_
        have hSt : ∀ a, St a → Bel y a := fun a ha => (hS a).1 ha
        rcases spA with ⟨a1, _⟩ | ⟨ia, a1, a2, _, _⟩
        · subst a1
          rcases spB with ⟨b1, _⟩ | ⟨ib, b1, b2, _, _⟩
          · subst b1
            simpa [putAt] using key108
          · subst b1
            simp
            refine kindAt hIy (by rw [hnl]; exact (keptN_mem.1 b2).1) hSt ?_
            rw [hims]
            simpa [putAt] using key108
        · subst a1
          simp
          refine kindAt hIy (by rw [hnl]; exact List.mem_range.1 a2) hSt ?_
          rw [hims]
          simp
          rcases spB with ⟨b1, _⟩ | ⟨ib, b1, b2, _, _⟩
          · subst b1
            simpa [putAt] using key108
          · subst b1
            simp
            refine kindAt hIy (by rw [hnl]; exact (keptN_mem.1 b2).1) hSt ?_
            rw [hims]
            simpa [putAt] using key108
      · obtain rfl : c = 5 := by omega
        rw [e6 (by omega)]
        exact ⟨⟨j + 1, rfl, h1, hy, um, hum, hus.next⟩, by simp [n0]; omega⟩
    obtain rfl : j = ats.length := by omega
    refine mkmap ?_
    have hm2 := Mp.new y1 ekB ek3
    have hy2 := bx' y1 [.map #[] 0]
    have hwy := bt b1 (bt hu6 hy1)
    refine ⟨fun st y => ∃ k : Nat, st = [.int .i64 (k : Nat)] ∧ k ≤ (keptN its ats its.length).length ∧ Bel y1 y ∧ ∃ fm, Mp y y1.heap.size ekB ek3 fm ∧ ∀ i ∈ (keptN its ats its.length).take k, look (kcOf its i : Int) fm = some 1, fun st _ => ((keptN its ats its.length).length + 1 - n0 st 0).toNat, ⟨0, rfl, by omega, hy2, [], hm2, fun i hi => by simp at hi⟩, ?_⟩
    rintro st y ⟨k, rfl, hk, hy, fm, hfm, hfl⟩
    simp
    refine ifD (fun h2 => ?_) (fun h2 => hR y (bt hwy hy))
    have hzy := bt hy1 hy
    obtain ⟨b, o, c2, ⟨off, ho', hsl⟩, hat⟩ := (hkv.bel hzy).at (List.getElem?_eq_getElem h2)
    injection hsl with hsl _ _
    subst hsl
    have hget := List.getElem?_eq_getElem h2
    have hmem := List.getElem_mem h2
    have htk : (keptN its ats its.length).take (k + 1) = (keptN its ats its.length).take k ++ [(keptN its ats its.length)[k]] := by rw [List.take_succ_eq_append_getElem h2]
    rw [idxR (T := 73) (k := 1) (by kernel_rfl) h2, ← ho']
    generalize (keptN its ats its.length)[k] = i at hat hget hmem htk
    obtain ⟨hil, hik⟩ := keptN_mem.1 hmem
    have hil' : i < ims.length := by omega
    simp [hat.cell0, encI]
    have hlook : look (i : Int) um1 = some 1 := by
      obtain ⟨s, hs, hn⟩ := (seenAt_iff hkw ats hil).1 ((keptB_iff hkw ats hil).1 hik).1
      obtain ⟨j', hj'⟩ := List.getElem?_of_mem hs
      have hj'l := (List.getElem?_eq_some_iff.1 hj').1
      exact hus1.1 j' _ s hj'l hj' (kcOf_lt hkw hil) i hn
    refine join_of fun J142 hJ142 => ?_
    have key142 : J142 [] y := by
      refine hJ142 _ _ ?_
      refine keyG hI6 hkm hil' hzy ?_
      rw [hims]
      refine mupd (k := (kcOf its i : Int)) (v := (1 : Int)) (ek := ekB) (ev := ek3) keyB Try.underlying80 hfm ?_
      rintro o1 _ hm'
      rw [e6 (by omega)]
      refine ⟨⟨k + 1, rfl, h2, bu hy (Nat.le_refl _) _, _, hm', fun i' hi' => ?_⟩, by simp [n0]; omega⟩
      rw [look_put]
      split
      · rfl
      · rename_i hne
        rw [htk] at hi'
        rcases List.mem_append.1 hi' with hi' | hi'
        · exact hfl i' hi'
        · simp only [List.mem_singleton] at hi'
          subst hi'
          exact absurd rfl hne
    refine getR (run_look (k := (i : Int)) (z := (0 : Int)) (ek := ek3) (ev := ek3) (E := 3) key3 Try.underlying76 zero_3 (hum1.bel hy) false) ?_
    rw [hlook]
    simp [ek3]
    refine kindG hI6 hil' hzy ?_
    rw [hims]
    simp
    refine ifD (fun h3 => ?_) (fun h3 => key142)
    refine keyG hI6 hkm hil' hzy ?_
    rw [hims]
    obtain ⟨j, hj, hji, hjk⟩ := del_older hkw hmem h3
    have hjt : j ∈ (keptN its ats its.length).take k := by
      obtain ⟨m, hm⟩ := List.getElem?_of_mem hj
      have := (row_at keptN_up hm hget).1 hji
      exact List.mem_of_getElem? (i := m) (by rw [List.getElem?_take, if_pos this]; exact hm)
    have hfj := hfl j hjt
    rw [hjk] at hfj
    refine getR (run_look (k := (kcOf its i : Int)) (z := (0 : Int)) (ek := ekB) (ev := ek3) (E := 3) keyB Try.underlying80 zero_3 hfm false) ?_
    rw [hfj]
    simp [ek3]
    exact key142
  refine ⟨fun s u => ∃ (v' : Value) (i : Nat) (ats : List Int), s = [v', .int .i64 (i : Nat)] ∧ i ≤ 10 ∧ i ≤ nb.length ∧ Bel w1 u ∧ Own u w1.heap.size 35 1 encU v' ats ∧ ats.length = i, fun s _ => (11 - n0 s 1).toNat, ⟨_, 0, [], rfl, by omega, by omega, br w1, Own.nil _ _ _ _ _, rfl⟩, ?_⟩
  rintro s u ⟨v', i, ats, rfl, hi, hin, hu, ho, hal⟩
  simp
  refine ifD (fun h1 => ?_) (fun h1 => key6 v' ats u hu ho (by omega))
  obtain ⟨b, o, c2, ⟨off, ho', hsl⟩, hat⟩ := (hb.bel (bt b1 hu)).at (List.getElem?_eq_getElem h1)
  injection hsl with hsl _ _
  subst hsl
  have hx := hnb _ (List.getElem_mem h1)
  rw [idxR (T := 36) (k := 1) (by kernel_rfl) h1, ← ho']
  generalize nb[i] = x at hat hx
  simp [hat.cell0, encBt]
  refine ifD (fun h2 => key6 v' ats u hu ho (by omega)) (fun h2 => ?_)
  have e1 : x % 18446744073709551616 = x := by omega
  have e2 : (L + 1) % 18446744073709551616 = L + 1 := by omega
  rw [e1, e2]
  refine (pure_rem _ _ _ _ _ _ (by omega)).2 ?_
  simp
  have hb3 := bx' u [.cells #[.int .u64 (x.tmod (L + 1))] 35]
  have g3 := hp_new u (.cells #[.int .u64 (x.tmod (L + 1))] 35)
  have ho3 := ho.bel hb3
  have hu3 := bt hu hb3
  have e6 : IntKind.i64.wrap ((i : Int) + 1) = ((i + 1 : Nat) : Int) := i64_succ (by omega)
  rw [e6]
  refine app row66 encU_ok ho3 (x := x.tmod (L + 1)) g3 rfl (by omega) (by simp only [maxLen]; omega) hu3.size fun v2 y5 ho5 hg5 hv5 => ?_
  exact ⟨⟨v2, i + 1, ⟨rfl, rfl⟩, by omega, h1, grown_bel hg5 hu3 fun g hg => (ho3.ge hg).1, _, ho5, by simp [hal]⟩, by simp [n0]; omega⟩
end Go.Proofs.Ytbcmoikpmmjlkaa
