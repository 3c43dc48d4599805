/- Law 14: ProbeLay, the walk. -/
import Derived.Test.YtbcmoikpmmjlkaaQP
import Derived.Test.YtbcmoikpmmjlkaaPJ
namespace Go.Proofs.Ytbcmoikpmmjlkaa
open Go Eng
set_option maxRecDepth 100000
structure Kv where
  ka : Option Addr
  kc : Nat
  key : List Nat
def Kv.v (x : Kv) : Value := .slice x.ka x.key.length x.kc
def encKv (x : Kv) : List Value := [.slice x.ka x.key.length x.kc]
structure KvOk (w : World) (x : Kv) : Prop where
  cap : x.key.length ≤ x.kc
  bs : x.key ≠ [] → Bs w x.v x.key
  byte : ∀ c ∈ x.key, c < 256
theorem kin_cut {w z : World} {r : Nat} {x : Kv} (h : KvOk w x) (hb : Bel w z) (hr : w.heap.size ≤ r) {a' : Option Addr} (ha : ∀ b o, x.ka = some ⟨b, o, none⟩ → a' = x.ka) : Kin z r (.slice a' (x.key.take 64).length x.kc) (x.key.take 64) := by
  refine ⟨⟨_, _, rfl⟩, fun hn => ?_, fun c hc => h.byte c (List.mem_of_mem_take hc)⟩
  have hn' : x.key ≠ [] := by intro e; rw [e] at hn; exact hn (by simp)
  obtain ⟨b, o, c, e, h1, h2⟩ := h.bs hn'
  have e' := e
  injection e with e1 _ e3
  have ea := ha b o e1
  rw [ea]
  obtain ⟨b2, o2, c2, f1, f2, f3⟩ := bs_take (h.bs hn') 64 x.ka x.kc rfl
  exact ⟨b2, o2, c2, f1, f2, f3.bel hb, by have := f3.lt; omega⟩
set_option maxHeartbeats 1000000 in
/-- ProbeLay. -/
theorem s8 {w : World} {seed : Nat} (hs : seed < 18446744073709551616) {av : Value} {kvs : List Kv} (ha : Rd w 1 encKv av kvs) (hok : ∀ x ∈ kvs, KvOk w x) {gn : Int} (hg0 : 0 ≤ gn ∧ gn ≤ 255) {R : Value → World → Prop}
    (hR : ∀ w', Bel w w' → R (.bool true) w') : F8 (.int .u64 (seed : Nat)) av (.int .u8 gn) w R := by
  obtain ⟨aa, ac, rfl⟩ := ha.form
  unfold F8
  refine c27 (s27 (B := w.heap.size) (seed := seed) (Nat.le_refl _) fun w1 r g b1 h1 => ?_)
  have hT := tab_new h1
  have hrB := h1.geR
  clear h1
  refine (pure_eqP Try.underlying89 _ _).2 ?_
  simp only [Option.isNone_some]
  refine ifB (fun hh => by cases hh) (fun _ => ?_)
  refine join_of fun J12 hJ12 => ?_
  have e6 : ∀ {k : Nat}, k ≤ 1000 → IntKind.i64.wrap ((k : Int) + 1) = ((k + 1 : Nat) : Int) := fun h => i64_succ (by omega)
  have key12 : ∀ z L, Bel w z → Tab z w.heap.size r seed L → (ks L).length ≤ 100 → J12 [] z := by
    intro z L hz hT hc
    refine hJ12 _ _ ?_
    refine join_of fun J27 hJ27 => ?_
    have key27 : ∀ z L, Bel w z → Tab z w.heap.size r seed L → (ks L).length ≤ 100 → J27 [] z := by
      intro z L hz hT hc
      refine hJ27 _ _ ?_
      obtain ⟨g, e, h1, ht, hl, hft, he⟩ := hT.out
      have hn8 : 8 ≤ L.length := by rw [hl]; exact ft_eight hft
      have hp2 : 2 ^ e ≤ 2 ^ 12 := Nat.pow_le_pow_right (by decide) he
      obtain ⟨ft1, ft2, ft3⟩ := hft
      have hcnt2 : (ks L).length + 2 ≤ L.length := by rw [hl]; exact ft_two ⟨ft1, ft2, ft3⟩
      refine c30 (s30 hT fun z1 v1 M bz1 hrd hM hsm hkb => ?_)
      obtain ⟨ma, mc, rfl⟩ := hrd.form
      have hT1 := hT.bel bz1
      have hzz := bt hz bz1
      simp only [len_93]
      refine join_of fun J46 hJ46 => ?_
      have key46 : ∀ z2, Bel z1 z2 → J46 [] z2 := by
        intro z2 hz2
        refine hJ46 _ _ ?_
        have hT2 := hT1.bel hz2
        have hrd2 := hrd.bel hz2
        have hzz2 := bt hzz hz2
        have hkb2 : ∀ x ∈ M, Kb z2 x.kv x.key := fun x hx => (hkb x hx).bel hz2
        obtain ⟨g2, e2, hb1, _⟩ := hT2.out
        obtain ⟨u0, hu0⟩ := unused_of rfl hcnt2
        have hMb : ∀ x ∈ M, ∀ c ∈ x.key, c < 256 := fun x hx => by
          obtain ⟨j, hj, rfl⟩ := List.mem_iff_getElem.1 hx
          have := hsm j _ _ (List.getElem?_eq_getElem hj) (List.getElem?_eq_getElem (by omega))
          rw [this.key]
          exact (h1.keys.kb (List.getElem_mem (by omega))).2
        have hsl : ∀ p, ∃ x, M[p % M.length]? = some x ∧ Sm x (sl L p) ∧ x ∈ M := fun p => by
          have hlt := Nat.mod_lt p (show 0 < M.length by omega)
          refine ⟨_, List.getElem?_eq_getElem hlt, hsm _ _ _ (List.getElem?_eq_getElem hlt) ?_, List.getElem_mem hlt⟩
          rw [hM]; exact sl_get rfl (by omega)
        refine ⟨fun s y => ∃ (us a : Nat), s = [.int .i64 (us : Nat), .int .i64 (a : Nat)] ∧ a ≤ M.length ∧ Bel z2 y ∧ us = (ks (L.take a)).length, fun s _ => (M.length + 1 - n0 s 1).toNat, ⟨0, 0, rfl, by omega, br z2, by simp [ks]⟩, ?_⟩
        rintro s y ⟨us, a, rfl, hal, hy, hus⟩
        have husl : us ≤ (ks L).length := by
          rw [hus]
          have : ks L = ks (L.take a) ++ ks (L.drop a) := by
            conv => lhs; rw [← List.take_append_drop a L]
            unfold ks
            rw [List.filter_append, List.map_append]
          rw [this, List.length_append]; omega
        simp only [nthV_zero, nthV_one, pure_lss]
        refine ifD (fun h3 => ?_) (fun h3 => ?_)
        · have h3 : a < M.length := by omega
          obtain ⟨x, hxM, hxs, hxm⟩ := hsl a
          rw [Nat.mod_eq_of_lt h3] at hxM
          have htk : ks (L.take (a + 1)) = if (sl L a).used then ks (L.take a) ++ [(sl L a).key] else ks (L.take a) := by
            have e1 : sl L a = L[a]'(by omega) := by
              unfold sl
              rw [Nat.mod_eq_of_lt (by omega), List.getD_eq_getElem?_getD, List.getElem?_eq_getElem (by omega)]; rfl
            rw [List.take_succ_eq_append_getElem (by omega), e1]
            unfold ks
            rw [List.filter_append, List.map_append]
            by_cases hh : (L[a]'(by omega)).used = true <;> simp [hh]
          obtain ⟨b, o, c, ⟨off, ho, hsl'⟩, hat⟩ := (hrd2.bel hy).at hxM
          injection hsl' with hsl' _ _
          subst hsl'
          refine (idxR (T := 93) (k := 4) (by kernel_rfl) h3).2 ?_
          rw [← ho]
          have hload := hat.cells0 4 (by decide) (by simp [encPm])
          refine ⟨.agg (encPm x).toArray, by simp only [loadW_ptr, shape_96, ldSh_agg, hload]; rfl, ?_⟩
          refine newL zero_96 fun q w2 b2 hq _ c2 => ?_
          refine st96 c2 ?_
          have c2 : hp (upd w2 q (.cells (encPm x).toArray 96)) q = some (.cells (encPm x).toArray 96) := by simp [c2]
          have b2 : Bel y (upd w2 q (.cells (encPm x).toArray 96)) := bu b2 hq _
          generalize upd w2 q (.cells (encPm x).toArray 96) = y1 at c2 b2 ⊢
          have hy1 := bt hy b2
          have ea : IntKind.i64.wrap ((a : Int) + 1) = ((a + 1 : Nat) : Int) := i64_succ (by omega)
          have eu : IntKind.i64.wrap ((us : Int) + 1) = ((us + 1 : Nat) : Int) := i64_succ (by omega)
          simp [c2, encPm, ea, eu, -newP_some, -storeW_ptr, -zero_96]
          refine ifB (fun hu => ?_) (fun hu => ?_)
          · have hu : (sl L a).used = false := by rw [← hxs.used]; simpa using hu
            rw [hu] at htk
            exact ⟨⟨us, a + 1, ⟨rfl, rfl⟩, h3, hy1, by rw [htk]; exact hus⟩, by simp [n0]; omega⟩
          · have hu : (sl L a).used = true := by rw [← hxs.used]; simpa using hu
            rw [hu, if_pos rfl] at htk
            have hxu : x.used = true := hxs.used.trans hu
            have hkL := h1.keys.used _ (sl_mem (L := L) (by omega) a) hu
            have hkn : x.key ≠ [] := by rw [hxs.key]; intro e; have := hkL.len; rw [e] at this; simp at this
            have hbs : ∀ y', Bel z2 y' → Bs y' x.kv x.key := fun y' b => ((hkb2 x hxm).bs hkn).bel b
            have hby := hMb x hxm
            have hk64 : x.key.length ≤ 1000 := by rw [hxs.key]; have := hkL.len; omega
            have hhm : (hm seed L.length (sl L a).key + (sl L a).far) % L.length = a := by
              have := ht.home a hu
              rwa [Nat.mod_eq_of_lt (show a < L.length by omega)] at this
            have hfar := ht.far_lt (by omega) hu0 hu
            have hxf : x.far = (sl L a).far := hxs.far
            refine c32 (s32 hs (hbs _ hy1) hby hk64 fun y2 b3 => ?_)
            have hy2 := bt hy1 b3
            have c3 := bg b3 c2
            have em : ((M.length : Int)) % 18446744073709551616 = M.length := by omega
            simp [em, -newP_some, -storeW_ptr, -zero_96]
            rw [pure_rem _ _ _ _ _ _ (by omega)]
            have hm1 : ((hashOf seed x.key : Nat) : Int).tmod (M.length : Int) = ((hm seed L.length (sl L a).key : Nat) : Int) := by
              unfold hm
              rw [hxs.key, hM, Int.tmod_eq_emod_of_nonneg (by omega)]; rfl
            rw [hm1]
            have hlt := Nat.mod_lt (hashOf seed (sl L a).key) (show 0 < L.length by omega)
            have hlt : hm seed L.length (sl L a).key < L.length := hlt
            generalize hm seed L.length (sl L a).key = hmv at *
            have em2 : IntKind.i64.wrap (hmv : Int) = hmv := i64_nat (by omega)
            simp [em2, -newP_some, -storeW_ptr, -zero_96]
            have hcx : sl L (hmv + (sl L a).far) = sl L a := sl_congr (by rw [hhm, Nat.mod_eq_of_lt (by omega)])
            have hch : ∀ f, f < x.far → (sl L (hmv + f)).used = true ∧ f ≤ (sl L (hmv + f)).far ∧ ((sl L (hmv + f)).far = f → ltK (sl L (hmv + f)).key (sl L a).key = true) := fun f hf => by
              obtain ⟨a1, a2, a3⟩ := ht.chain hcx hu rfl ((sl L a).far - f) (by omega)
              rw [show hmv + ((sl L a).far - ((sl L a).far - f)) = hmv + f by omega] at a1 a2 a3
              exact ⟨a1, by omega, fun e => a3 (by omega) (by omega)⟩
            have hd := bd (br y2)
            refine drawn' (St0 := fun u => hp u q = some (.cells (encPm x).toArray 96)) (bg hd c3) fun St hS => ?_
            have ew1 : IntKind.i64.wrap ((a : Int) - hmv) = (a : Int) - hmv := wrap_i64 (by omega) (by omega)
            have ew2 : IntKind.i64.wrap ((a : Int) - hmv + M.length) = (a : Int) - hmv + M.length := wrap_i64 (by omega) (by omega)
            have hfe : ((a : Int) - hmv + M.length).tmod (M.length : Int) = ((x.far : Nat) : Int) := by
              rw [Int.tmod_eq_emod_of_nonneg (by omega), hxf, hM]
              rcases Nat.lt_or_ge (hmv + (sl L a).far) L.length with hlt2 | hge
              · rw [Nat.mod_eq_of_lt hlt2] at hhm
                rw [show (a : Int) - hmv + L.length = ((sl L a).far : Int) + L.length by omega, Int.add_emod_right, Int.emod_eq_of_lt (by omega) (by omega)]
              · rw [Nat.mod_eq_sub_mod hge, Nat.mod_eq_of_lt (by omega)] at hhm
                rw [show (a : Int) - hmv + L.length = ((sl L a).far : Int) by omega, Int.emod_eq_of_lt (by omega) (by omega)]
            rw [ew1, ew2, pure_rem _ _ _ _ _ _ (by omega), hfe]
            refine rdS (fun u hu => (hS u).1 hu) (x := .int .i64 (x.far : Nat)) rfl ?_
            simp only [pure_neq]
            refine ifD (fun hh => absurd rfl hh) (fun _ => ?_)
            clear hS
            have hy3 := bt hy2 hd
            have c4 := bg hd c3
            generalize y2.drew = y3 at hy3 c4 ⊢
            refine ⟨fun s z => ∃ f : Nat, s = [.int .i64 (f : Nat)] ∧ f ≤ x.far ∧ Bel y3 z, fun s _ => (x.far + 1 - n0 s 0).toNat, ⟨0, rfl, by omega, br y3⟩, ?_⟩
            rintro s z ⟨f, rfl, hf, hz3⟩
            have hyz := bt hy3 hz3
            have c5 := bg hz3 c4
            have ef : IntKind.i64.wrap ((f : Int) + 1) = ((f + 1 : Nat) : Int) := i64_succ (by omega)
            simp [c5, encPm, -newP_some, -storeW_ptr, -zero_96]
            refine ifD (fun h5 => ?_) (fun h5 => ?_)
            · have h5 : f < x.far := by omega
              obtain ⟨l1, l2, l3⟩ := hch f h5
              obtain ⟨x', hxM', hxs', hxm'⟩ := hsl (hmv + f)
              have hm5 := Nat.mod_lt (hmv + f) (show 0 < M.length by omega)
              have ew3 : IntKind.i64.wrap ((hmv : Int) + f) = (hmv : Int) + f := wrap_i64 (by omega) (by omega)
              rw [ew3, pure_rem _ _ _ _ _ _ (by omega)]
              have hr5 : ((hmv : Int) + f).tmod (M.length : Int) = (((hmv + f) % M.length : Nat) : Int) := by
                rw [Int.tmod_eq_emod_of_nonneg (by omega)]; rfl
              rw [hr5]
              obtain ⟨b', o', c', ⟨off', ho', hsl'⟩, hat'⟩ := (hrd2.bel hyz).at hxM'
              injection hsl' with hsl' _ _
              injection hsl' with hsl'
              injection hsl' with q1 q2
              subst q1; subst q2
              refine (idxR (T := 93) (k := 4) (by kernel_rfl) hm5).2 ?_
              rw [← ho']
              have hload' := hat'.cells0 4 (by decide) (by simp [encPm])
              refine ⟨.agg (encPm x').toArray, by simp only [loadW_ptr, shape_96, ldSh_agg, hload']; rfl, ?_⟩
              refine newL zero_96 fun q' w2' b2' hq' _ c2' => ?_
              refine st96 c2' ?_
              have c2' : hp (upd w2' q' (.cells (encPm x').toArray 96)) q' = some (.cells (encPm x').toArray 96) := by simp [c2']
              have b2' : Bel z (upd w2' q' (.cells (encPm x').toArray 96)) := bu b2' hq' _
              generalize upd w2' q' (.cells (encPm x').toArray 96) = z3 at c2' b2' ⊢
              have hz3' := bt hz3 b2'
              have c6 := bg b2' c5
              have hxu' : x'.used = true := hxs'.used.trans l1
              have hxf' : x'.far = (sl L (hmv + f)).far := hxs'.far
              simp [c2', c6, encPm, hxu', -newP_some, -storeW_ptr, -zero_96]
              refine ifD (fun h6 => absurd h6 (by omega)) (fun _ => ?_)
              refine ifD (fun h7 => ?_) (fun h7 => ?_)
              · refine c33 (s33 ((hkb2 x' hxm').bel (bt hyz b2')) ((hkb2 x hxm).bel (bt hyz b2')) (hMb x' hxm') hby ?_)
                simp only [pure_geq]
                refine ifD (fun h8 => absurd h8 (cmpK_ge (hMb x' hxm') hby ?_)) (fun _ => ?_)
                · rw [hxs'.key, hxs.key]; exact l3 (by omega)
                · simp only [ef]
                  exact ⟨⟨f + 1, rfl, h5, hz3'⟩, by simp [n0]; omega⟩
              · simp only [ef]
                exact ⟨⟨f + 1, rfl, h5, hz3'⟩, by simp [n0]; omega⟩
            · have hTz := hT2.bel hyz
              obtain ⟨g9, e9, h9, ht9, hl9, _, he9⟩ := hTz.out
              refine c34 (s34 h9 ht9 hs hl9 (by omega) (hbs _ hyz) hby hk64 hu0 (fun w' p bw hpu hpk => ?_) (fun w' bw hno => ?_))
              · have c7 := bg bw c5
                have hpa : sl L p = sl L a := sl_congr (ht.uniq (by omega) hu0 hpu hu (hpk.trans hxs.key))
                have hnn : (sl L p).n = x.n := by rw [hpa]; exact hxs.n.symm
                simp [c7, encPm, hnn, -newP_some, -storeW_ptr, -zero_96]
                refine ⟨⟨us + 1, a + 1, ⟨rfl, rfl⟩, h3, bt hyz bw, by rw [htk, List.length_append, hus]; rfl⟩, by simp [n0]; omega⟩
              · exact absurd hxs.key.symm (hno a hu)
        · obtain rfl : a = M.length := by omega
          rw [List.take_of_length_le (by omega)] at hus
          refine c31 (s31 (hT2.bel hy) ?_)
          simp only [pure_eql]
          refine ifD (fun _ => ?_) (fun hh => absurd (by rw [hus]) hh)
          exact c35 (s35 fun w' b => hR w' (bt (bt hzz2 hy) b))
      have w1' : IntKind.i64.wrap ((M.length : Int) - 1) = ((2 ^ e - 1 : Nat) : Int) := by rw [wrap_i64 (by omega) (by omega), hM, hl]; omega
      have hmod : M.length % 2 ^ e = 0 := by rw [hM, hl, Nat.mod_self]
      have w4 : IntKind.i64.wrap (4 * ((ks L).length : Int)) = 4 * ((ks L).length : Int) := wrap_i64 (by omega) (by omega)
      have w3 : IntKind.i64.wrap (3 * (M.length : Int)) = 3 * (M.length : Int) := wrap_i64 (by omega) (by omega)
      simp only [pure_lss]
      refine ifD (fun hh => absurd hh (by omega)) (fun _ => ?_)
      simp only [pure_sub, w1']
      refine (pure_andN (.inr rfl) (.inl (by omega)) (by omega) _ _ _).2 ?_
      rw [hmod]
      simp only [pure_neq]
      refine ifD (fun hh => absurd rfl hh) (fun _ => ?_)
      refine c31 (s31 hT1 ?_)
      simp only [pure_mul, w4, w3, pure_gtr]
      refine ifD (fun hh => absurd hh (by rw [hM, hl]; omega)) (fun _ => ?_)
      refine ifD (fun hh => ?_) (fun _ => key46 _ (br _))
      refine c31 (s31 hT1 ?_)
      simp only [pure_mul, w4, w3]
      rw [pure_quo _ _ _ _ _ _ (by decide)]
      have hq : (3 * (M.length : Int)).tdiv 2 = 3 * (M.length : Int) / 2 := Int.tdiv_eq_ediv_of_nonneg (by omega)
      rw [hq, wrap_i64 (by omega) (by omega)]
      simp only [pure_leq]
      refine ifD (fun h4 => ?_) (fun _ => key46 _ (br _))
      have he3 : 3 < e := by
        refine Nat.lt_of_le_of_ne ft1 fun h3 => ?_
        subst h3
        have : L.length = 8 := hl
        omega
      have hft3 := ft3 he3
      have hsp : 2 ^ e = 2 * 2 ^ (e - 1) := by
        obtain ⟨f, rfl⟩ : ∃ f, e = f + 1 := ⟨e - 1, by omega⟩
        rw [Nat.add_sub_cancel, Nat.pow_succ]; omega
      omega
    refine ⟨fun s u => ∃ (i : Nat) (L : List Pm), s = [.int .i64 (i : Nat)] ∧ i ≤ 100 ∧ Bel w u ∧ Tab u w.heap.size r seed L ∧ (ks L).length ≤ 100, fun s _ => (100 - n0 s 0).toNat, ⟨0, L, rfl, by omega, hz, hT, hc⟩, ?_⟩
    rintro s u ⟨i, L, rfl, hi, hu, hT, hc⟩
    have hgm : gn.tmod 100 = gn % 100 := Int.tmod_eq_emod_of_nonneg hg0.1
    simp only [len_88, nthV_zero, pure_lss]
    refine ifD (fun h1 => ?_) (fun h1 => key27 u L hu hT hc)
    have e1 : IntKind.i64.wrap gn = gn := wrap_i64 (by omega) (by omega)
    simp [e1]
    rw [pure_rem _ _ _ _ _ _ (by decide), hgm]
    simp
    refine ifD (fun h2 => ?_) (fun h2 => key27 u L hu hT hc)
    have h1' : i < kvs.length := by omega
    have hm := List.getElem_mem h1'
    have hx := hok _ hm
    obtain ⟨b, o, c, ⟨off, ho, hsl⟩, hat⟩ := ha.at (List.getElem?_eq_getElem h1')
    injection hsl with hsl _ _
    subst hsl
    generalize kvs[i] = x at hx hat
    refine drawn' (St0 := Bel w) (bd hu) fun St hS => ?_
    refine (idxR (T := 88) (k := 1) (by kernel_rfl) h1').2 ?_
    rw [← ho]
    have hrd : ∀ a, St a → loadW Pg 36 (.pointer (some ⟨b, o, none⟩)) a = some x.v := fun a ha' => by
      have := (hat.bel ((hS a).1 ha')).cell0 (by simp [encKv])
      simp only [loadW_ptr, shape_36, ldSh_one, this]; rfl
    refine ⟨x.v, hrd, ?_⟩
    refine (idxR (T := 88) (k := 1) (by kernel_rfl) h1').2 ?_
    rw [← ho]
    refine ⟨x.v, hrd, ?_⟩
    simp [Kv.v]
    have hcap := hx.cap
    have e2 : (0 : Int) ≤ (if (64 : Int) < x.key.length then 64 else (x.key.length : Int)) ∧ (if (64 : Int) < x.key.length then 64 else (x.key.length : Int)) ≤ x.kc ∧ (if (64 : Int) < x.key.length then 64 else (x.key.length : Int)).toNat = (x.key.take 64).length := by
      rw [List.length_take]; split <;> omega
    refine slice0 Try.underlying36 size_5 e2.1 e2.2.1 fun a' ha' => ?_
    rw [e2.2.2]
    have hd := bd (br u)
    refine c29 (s29 (hT.bel hd) (bt hu hd) hs (kin_cut hx (bt hu hd) hrB ha') (by omega) fun z' L' y b2 hT2 hc2 _ => ?_)
    refine ⟨(hS _).2 b2, ?_⟩
    rw [e6 (by omega)]
    exact ⟨⟨i + 1, rfl, by omega, b2, L', hT2, by omega⟩, by simp [n0]; omega⟩
  refine ⟨fun s u => ∃ (i : Nat) (L : List Pm), s = [.int .i64 (i : Nat)] ∧ i ≤ 100 ∧ Bel w u ∧ Tab u w.heap.size r seed L ∧ (ks L).length ≤ i, fun s _ => (100 - n0 s 0).toNat, ⟨0, _, rfl, by omega, b1, hT, by rw [ks_empty]; simp⟩, ?_⟩
  rintro s u ⟨i, L, rfl, hi, hu, hT, hc⟩
  simp only [len_88, nthV_zero, pure_lss]
  refine ifD (fun h1 => ?_) (fun h1 => key12 u L hu hT (by omega))
  refine ifD (fun h2 => ?_) (fun h2 => key12 u L hu hT (by omega))
  have h1' : i < kvs.length := by omega
  have hm := List.getElem_mem h1'
  have hx := hok _ hm
  obtain ⟨b, o, c, ⟨off, ho, hsl⟩, hat⟩ := ha.at (List.getElem?_eq_getElem h1')
  injection hsl with hsl _ _
  subst hsl
  generalize kvs[i] = x at hx hat
  refine drawn' (St0 := Bel w) (bd hu) fun St hS => ?_
  refine (idxR (T := 88) (k := 1) (by kernel_rfl) h1').2 ?_
  rw [← ho]
  have hrd : ∀ a, St a → loadW Pg 36 (.pointer (some ⟨b, o, none⟩)) a = some x.v := fun a ha' => by
    have := (hat.bel ((hS a).1 ha')).cell0 (by simp [encKv])
    simp only [loadW_ptr, shape_36, ldSh_one, this]; rfl
  refine ⟨x.v, hrd, ?_⟩
  refine (idxR (T := 88) (k := 1) (by kernel_rfl) h1').2 ?_
  rw [← ho]
  refine ⟨x.v, hrd, ?_⟩
  simp [Kv.v]
  have hcap := hx.cap
  have e2 : (0 : Int) ≤ (if (64 : Int) < x.key.length then 64 else (x.key.length : Int)) ∧ (if (64 : Int) < x.key.length then 64 else (x.key.length : Int)) ≤ x.kc ∧ (if (64 : Int) < x.key.length then 64 else (x.key.length : Int)).toNat = (x.key.take 64).length := by
    rw [List.length_take]; split <;> omega
  refine slice0 Try.underlying36 size_5 e2.1 e2.2.1 fun a' ha' => ?_
  rw [e2.2.2]
  have hd := bd (br u)
  refine c28 (s28 (hT.bel hd) (bt hu hd) hs (kin_cut hx (bt hu hd) hrB ha') (by omega) fun z' L' y b2 hT2 hc2 _ => ?_)
  refine ⟨(hS _).2 b2, ?_⟩
  rw [e6 (by omega)]
  exact ⟨⟨i + 1, rfl, by omega, b2, L', hT2, by omega⟩, by simp [n0]; omega⟩
end Go.Proofs.Ytbcmoikpmmjlkaa
