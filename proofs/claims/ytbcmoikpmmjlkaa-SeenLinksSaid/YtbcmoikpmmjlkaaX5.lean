/- Law 20: SeenLinks answers true. -/
import Derived.Test.YtbcmoikpmmjlkaaX4
namespace Go.Proofs.Ytbcmoikpmmjlkaa
open Go Eng
set_option maxRecDepth 100000
theorem row53 : RowT 53 55 2 16 := ⟨Try.underlying53, by kernel_rfl⟩
def encBy (n : Int) : List Value := [.int .u8 n]
theorem encBy_ok : Enc 1 encBy := ⟨fun _ => rfl, fun x u hu => by simp [encBy] at hu; subst hu; rfl, by decide⟩
def evU (n : Int) : Value := .int .u64 n
theorem LkOk.nrow {w : World} {B : Nat} {L : Lk} (h : LkOk w B L) {g E : Nat} {cur : Array Value} (hg : hp w g = some (.cells cur E (0, 0))) (h1 : E ≠ 128) (h2 : E ≠ 34) : ¬ L.foot g := by
  rintro (rfl | rfl | rfl | hb)
  · rw [h.cell] at hg; injection hg with hg; injection hg with _ hg; exact h1 hg.symm
  · obtain ⟨es, c, hm, _⟩ := h.hm; rw [hm] at hg; cases hg
  · obtain ⟨es, c, hm, _⟩ := h.am; rw [hm] at hg; cases hg
  · obtain ⟨cur', hc⟩ := h.wv.row hb
    rw [hc] at hg; injection hg with hg; injection hg with _ hg; exact h2 hg.symm
theorem Fr.of_grown {w w' : World} {row : Option Nat} (h : w.grownBy w' row) : Fr (fun b => row = some b) w w' := ⟨h.os, h.tape, h.output, h.size, fun k hk hn => h.block k hk fun e => hn e.symm⟩
theorem idxs_length (c : Nat) (ks : List Nat) : (idxs c ks).length ≤ ks.length := by
  unfold idxs
  exact Nat.le_trans (List.length_filter_le _ _) (by simp)
theorem idxs_up (c : Nat) (ks : List Nat) {i j a b : Nat} (hij : i < j) (ha : (idxs c ks)[i]? = some a) (hb : (idxs c ks)[j]? = some b) : a < b := by
  have hp : (idxs c ks).Pairwise (· < ·) := List.Pairwise.filter _ List.pairwise_lt_range
  obtain ⟨h1, rfl⟩ := List.getElem?_eq_some_iff.1 ha
  obtain ⟨h2, rfl⟩ := List.getElem?_eq_some_iff.1 hb
  exact List.pairwise_iff_getElem.1 hp i j h1 h2 hij
/-- The second part of the loc in a block. -/
def locN (w : World) (q : Nat) : Nat := match hp w q with | some (.cells c _ _) => (match (c[1]? : Option Value) with | some (.int _ o) => o.toNat | _ => 0) | _ => 0
theorem locN_of {w : World} {q : Nat} {a b : Int} {E : TypeId} {fr : Nat × Nat} (h : hp w q = some (.cells #[.int .u32 a, .int .u32 b] E fr)) : locN w q = b.toNat := by unfold locN; rw [h]; rfl
/-- What the first loop of SeenLinks keeps. -/
structure I20 (W u : World) (px m1 m2 : Nat) (ks : List Nat) : Prop where
  bel : Bel W u
  ex : ∃ L sq mb, LkOk u W.heap.size L ∧ L.p = px ∧ K20 L sq ks ∧ GB u W.heap.size m1 55 2 ekB encV mb (fun c => versOf (idxs c.toNat ks)) ∧ (∀ c v, look c mb = some v → 97 ≤ c ∧ c ≤ 104) ∧ Mp u m2 ekL evU sq ∧ ¬ L.foot m1 ∧ ¬ L.foot m2 ∧ m1 ≠ m2 ∧ W.heap.size ≤ m2
theorem s4 {w : World} {av : Value} {l : List Int} (ha : Rd w 1 encBy av l) (hl : ∀ x ∈ l, 0 ≤ x ∧ x ≤ 255) {s : Int} (hs : 0 ≤ s ∧ s ≤ 255) {R : Value → World → Prop} (hR : ∀ w', Bel w w' → R (.bool true) w') : F4 av (.int .u8 s) w R := by
  obtain ⟨aa, ac, rfl⟩ := ha.form
  unfold F4
  refine c11 (s11 fun w1 px hx ax hb1 hLx => ?_)
  simp
  refine mkmap (mkmap ?_)
  have hg1 : GB (ext w1 [.map #[] 0]) w.heap.size w1.heap.size 55 2 ekB encV [] (fun c => versOf (idxs c.toNat [])) := GB.new w1 55 2 ekB encV hb1.size
  have hx1 := bx' w1 [.map #[] 0]
  have hx2 := bx' (ext w1 [.map #[] 0]) [.map #[] 0]
  have hsz1 : (ext w1 [.map #[] 0]).heap.size = w1.heap.size + 1 := by simp
  have hm2 := Mp.new (ext w1 [.map #[] 0]) ekL evU
  have hL0 := (hLx.bel hx1).bel hx2
  have hg0 := hg1.bel hx2
  have hb0 := bt hb1 (bt hx1 hx2)
  rw [hsz1] at hm2 ⊢
  simp only [ext_ext, List.singleton_append, List.cons_append, List.nil_append] at hx1 hx2 hm2 hL0 hg0 hb0 ⊢
  have hlow1 := hLx.low
  have hn1 : ¬ Lk.foot ⟨px, hx, ax, .slice none 0 0, [], [], [], 0⟩ w1.heap.size := fun h => by have := (hlow1 _ h).2; omega
  have hn2 : ¬ Lk.foot ⟨px, hx, ax, .slice none 0 0, [], [], [], 0⟩ (w1.heap.size + 1) := fun h => by have := (hlow1 _ h).2; omega
  have hle1 := hb1.size
  clear hg1 hLx hlow1 hx1 hx2 hsz1
  generalize ext w1 [.map #[] 0, .map #[] 0] = w2 at hm2 hL0 hg0 hb0 ⊢
  generalize w1.heap.size = m1 at hm2 hg0 hn1 hn2 hle1 ⊢
  refine join_of fun J hJ => ?_
  have key : ∀ i ks u, ks.length = i → I20 w u px m1 (m1 + 1) ks → i ≤ 60 → J [] u := by
    clear hm2 hL0 hg0 hn1 hn2
    rintro i ks u hki ⟨hB, L, sq, mb, kL, ep, K, hgb, hmb, hmq, n1, n2, n3, n4⟩ hi
    refine hJ _ _ ?_
    subst ep
    refine rng Try.underlying51 hgb.mp fun o1 hit => ?_
    have hxo := bx' u [o1]
    refine ⟨fun st x => st = [] ∧ Bel u x ∧ ∃ done, It x u.heap.size m1 ekB id mb done, fun _ x => mb.length - seenN x u.heap.size, ⟨rfl, hxo, [], hit⟩, ?_⟩
    rintro st x ⟨rfl, hx, done, hit⟩
    refine nxt hit (fun hall => ?_) (fun k v x' hmem hnd hit' hcur hfr hsz => ?_)
    · simp
      exact c19 (s19 fun w' b => hR _ (bt hB (bt hx b)))
    simp
    refine getR hcur.run ?_
    have hnod : (mb.map (·.1)).Nodup := by obtain ⟨_, _, _, _, h, _⟩ := hgb.mp; exact h
    have hlk := look_of_mem hnod hmem
    have hk := hmb k v hlk
    obtain ⟨c, rfl⟩ : ∃ c : Nat, k = (c : Int) := ⟨k.toNat, by omega⟩
    have hck : ∀ x ∈ [c], x < 256 := by intro x hx; simp at hx; omega
    have hx' : Bel u x' := hfr.below hx (by rintro b rfl; exact Nat.le_refl _)
    have hmany := hit.many
    have hmany' := hit'.many
    obtain ⟨hown, hne⟩ := hgb.own _ _ hlk
    rw [Int.toNat_natCast] at hown hne
    have hlen := idxs_length c ks
    have hup := fun {i j a b : Nat} => @idxs_up c ks i j a b
    have hmay := versOf_may c ks (by omega)
    have hhead := K.heads c
    have hahead := K.ahead c
    have hsq : ∀ j, j ∈ idxs c ks → look (locOf j) sq = some ((j : Int) + 1) := fun j hj => K.seqs j (idxs_lt hj)
    have hjl : ∀ j, j ∈ idxs c ks → j < 60 := fun j hj => by have := idxs_lt hj; omega
    have hil : idxs c ks ≠ [] := fun e => hne (by rw [e]; rfl)
    generalize idxs c ks = il at hown hne hlen hup hmay hhead hahead hsq hjl hil
    simp [ekB]
    have b1 := bx' x' [.cells #[.int .u8 (c : Int)] 5]
    have hbs : Bs (ext x' [.cells #[.int .u8 (c : Int)] 5]) (.slice (some ⟨x'.heap.size, 0, none⟩) 1 1) [c] := ⟨_, _, _, rfl, by simp, At.of (hp_new x' _)⟩
    generalize ext x' [.cells #[.int .u8 (c : Int)] 5] = y1 at b1 hbs ⊢
    refine c13 (s13 (kL.bel (bt hx' b1)) hbs hck (Nat.le_refl 1) (by rw [List.length_singleton]; decide) fun y2 b2 => ?_)
    have hlast : il.getLast? = some (il.getLast hil) := List.getLast?_eq_some_getLast hil
    rw [hhead, hlast]
    simp [evH]
    have hst : (stopAt il il.length).1 = 1 ∧ (stopAt il il.length).2 = 16 + 30 * (il.getLast hil : Int) := by
      obtain ⟨n, hn⟩ : ∃ n, il.length = n + 1 := ⟨il.length - 1, by have := List.length_pos_iff.2 hil; omega⟩
      rw [hn]
      simp only [stopAt, locOf, List.getD_eq_getElem?_getD]
      rw [List.getLast_eq_getElem]
      rw [List.getElem?_eq_getElem (by omega)]
      simp [hn]
    have b3 : Bel x' y2 := bt b1 b2
    have b4 := bx' y2 [.cells #[.int .u32 1, .int .u32 (16 + 30 * (il.getLast hil : Int)), .int .u64 ((il.getLast hil : Int) + 1), .int .i64 1] 42, .cells #[.int .u32 1, .int .u32 (16 + 30 * (il.getLast hil : Int))] 34]
    have q4 := hp_ext_at (w := y2) (L := [.cells #[.int .u32 1, .int .u32 (16 + 30 * (il.getLast hil : Int)), .int .u64 ((il.getLast hil : Int) + 1), .int .i64 1] 42, .cells #[.int .u32 1, .int .u32 (16 + 30 * (il.getLast hil : Int))] 34]) (i := 1) rfl
    generalize hz0 : ext y2 [.cells #[.int .u32 1, .int .u32 (16 + 30 * (il.getLast hil : Int)), .int .u64 ((il.getLast hil : Int) + 1), .int .i64 1] 42, .cells #[.int .u32 1, .int .u32 (16 + 30 * (il.getLast hil : Int))] 34] = z0 at b4 q4 ⊢
    have hes : s % 18446744073709551616 = s := by omega
    rw [hes]
    have hq : x'.heap.size ≤ y2.heap.size + 1 := by have := b3.size; omega
    have b0 : Bel x' z0 := bt b3 b4
    clear hz0
    generalize y2.heap.size + 1 = q at q4 hq ⊢
    refine join_of fun J2 hJ2 => ?_
    have fin : ∀ n z, n ≤ il.length → Bel x' z → hp z q = some (.cells #[.int .u32 (stopAt il n).1, .int .u32 (stopAt il n).2] 34) → (∀ (i j : Nat), n ≤ i → il[i]? = some j → s < (j : Int) + 1) → (∀ (k j : Nat), n = k + 1 → il[k]? = some j → (j : Int) + 1 ≤ s) → J2 [] z := by
      intro n z hn hz qz h1 h2
      refine hJ2 _ _ ?_
      have hbh := stop_bh hmay hn h1 h2
      have hrd := (hown.rd encV_ok).bel (bt hx' hz)
      refine c18 (s18 hrd (by rw [versOf_length]; omega) hmay fun z2 b2 => ?_)
      rw [hbh]
      simp
      have hzd := bd (bt hz b2)
      refine drawn' (St0 := Bel z2) (bd (br z2)) fun St hS => ?_
      have hSu := (hS z2.drew).2 (bd (br z2))
      have qz2 := bg b2 qz
      rw [readP_iff (fun a ha => bg ((hS a).1 ha) qz2) hSu]
      simp
      have hgo : (Bel u z2.drew ∧ ∃ done, It z2.drew u.heap.size m1 ekB id mb done) ∧ mb.length - seenN z2.drew u.heap.size < mb.length - seenN x u.heap.size := by
        have hit2 := hit'.bel hzd
        have := hit2.many
        have hc1 : ((c : Int) :: done).length = done.length + 1 := rfl
        exact ⟨⟨bt hx' hzd, _, hit2⟩, by omega⟩
      cases n with
      | zero =>
        simp [stopAt]
        exact hgo
      | succ k =>
        have hkl : k < il.length := by omega
        simp only [stopAt, locOf, List.getD_eq_getElem?_getD, List.getElem?_eq_getElem hkl, Option.getD_some] at qz2 ⊢
        have hjk : (versOf il)[k]? = some ⟨(il[k] : Int) + 1, 1⟩ := by unfold versOf; rw [List.getElem?_map, List.getElem?_eq_getElem hkl]; rfl
        obtain ⟨bb, o, c2, ⟨off, ho, hsl⟩, hat⟩ := (hrd.bel b2).at hjk
        subst hsl
        have hkv : k < (versOf il).length := by rw [versOf_length]; exact hkl
        simp
        rw [idxR (T := 53) (k := 2) (by kernel_rfl) hkv, ← ho]
        simp
        have hload : ∀ a, St a → loadW Pg 35 (.pointer (some ⟨bb, o, none⟩)) a = some (.int .u64 ((il[k] : Int) + 1)) := fun a ha => by
          have := (hat.bel ((hS a).1 ha)).cell0 (by simp [encV])
          simp only [loadW_ptr, shape_35, ldSh_one, this]
          rfl
        refine ⟨_, hload, ?_⟩
        rw [readP_iff (fun a ha => bg ((hS a).1 ha) qz2) hSu]
        simp
        have hlook := hsq il[k] (List.getElem_mem hkl)
        refine readP_run (fun a ha => run_look (k := locOf il[k]) (z := (0 : Int)) (ev := evU) (E := 35) keyL Try.underlying52 zero_35 (hmq.bel (bt hx' (bt hz (bt b2 ((hS a).1 ha))))) false) ?_
        rw [hlook]
        simp [evU]
        exact hgo
    refine ⟨fun st z => st = [] ∧ ∃ n, n ≤ il.length ∧ Bel x' z ∧ hp z q = some (.cells #[.int .u32 (stopAt il n).1, .int .u32 (stopAt il n).2] 34) ∧ (∀ (i j : Nat), n ≤ i → il[i]? = some j → s < (j : Int) + 1), fun _ z => locN z q, ⟨rfl, il.length, Nat.le_refl _, b0, by rw [hst.1, hst.2]; exact q4, fun i j h1 h2 => absurd (List.getElem?_eq_some_iff.1 h2).1 (by omega)⟩, ?_⟩
    rintro st z ⟨rfl, n, hn, hz, qz, hab⟩
    simp [qz]
    cases n with
    | zero =>
      simp [stopAt]
      exact fin 0 z hn hz qz hab (fun k j h => by omega)
    | succ k =>
      have hkl : k < il.length := by omega
      have hj := List.getElem?_eq_getElem hkl
      have hjm := List.getElem_mem hkl
      have hsp : stopAt il (k + 1) = locOf il[k] := by simp only [stopAt, List.getD_eq_getElem?_getD, hj, Option.getD_some]
      rw [hsp] at qz ⊢
      simp only [locOf] at qz ⊢
      simp
      refine getR (run_look (k := locOf il[k]) (z := (0 : Int)) (ev := evU) (E := 35) keyL Try.underlying52 zero_35 (hmq.bel (bt hx' hz)) false) ?_
      rw [hsq _ hjm]
      simp [evU]
      refine ifD (fun h6 => ?_) (fun h6 => ?_)
      · refine c17 (s17 (kL.bel (bt hx' hz)) fun z2 b2 => ?_)
        rw [show ((1 : Int), 16 + 30 * (il[k] : Int)) = locOf il[k] from rfl, hahead k _ hj]
        have qz2 := bg b2 qz
        have hzz := hp_lt qz2
        simp [ekL, qz2]
        refine ⟨⟨k, by omega, bu (bt hz b2) hq _, ⟨rfl, rfl⟩, ?_⟩, ?_⟩
        · intro i j h1 h2
          by_cases hik : i = k
          · subst hik
            rw [hj] at h2; injection h2 with h2; subst h2; exact h6
          · exact hab i j (by omega) h2
        · rw [locN_of qz, locN_of (show hp (upd z2 q _) q = some (.cells #[.int .u32 (stopAt il k).1, .int .u32 (stopAt il k).2] 34) by simp [qz2])]
          cases k with
          | zero => simp [stopAt]; omega
          | succ k' =>
            have hk' : k' < il.length := by omega
            have := hup (Nat.lt_succ_self k') (List.getElem?_eq_getElem hk') hj
            simp only [stopAt, locOf, List.getD_eq_getElem?_getD, List.getElem?_eq_getElem hk', Option.getD_some]
            omega
      · refine fin (k + 1) z hn hz (by rw [hsp]; exact qz) hab fun k2 j h7 h8 => ?_
        obtain rfl : k = k2 := by omega
        rw [hj] at h8; injection h8 with h8; subst h8; omega
  refine ⟨fun st u => ∃ i ks, st = [.int .i64 (i : Nat)] ∧ ks.length = i ∧ i ≤ 60 ∧ i ≤ l.length ∧ I20 w u px m1 (m1 + 1) ks, fun st _ => (61 - n0 st 0).toNat, ⟨0, [], rfl, rfl, by omega, by omega, hb0, _, [], [], hL0, rfl, K20.start, hg0, fun c v h => by simp at h, hm2, hn1, hn2, by omega, by omega⟩, ?_⟩
  rintro st u ⟨i, ks, rfl, hki, hi, hil, I⟩
  simp
  refine ifD (fun h1 => ?_) (fun _ => key _ ks u hki I hi)
  refine ifD (fun h2 => ?_) (fun _ => key _ ks u hki I hi)
  obtain ⟨hB, L, sq, mb, kL, ep, K, hgb, hmb, hmq, n1, n2, n3, n4⟩ := I
  obtain ⟨b, o, c2, ⟨off, ho, hsl⟩, hat⟩ := (ha.bel hB).at (List.getElem?_eq_getElem h1)
  injection hsl with hsl _ _
  subst hsl
  have hxr := hl _ (List.getElem_mem h1)
  rw [idxR (T := 36) (k := 1) (by kernel_rfl) h1, ← ho]
  generalize l[i] = x at hat hxr
  simp [hat.cell0, encBy]
  obtain ⟨c, hc, hc97, hc104⟩ : ∃ c : Nat, (97 + x.tmod 8) % 256 = (c : Int) ∧ 97 ≤ c ∧ c ≤ 104 := by
    have : x.tmod 8 = x % 8 := Int.tmod_eq_emod_of_nonneg hxr.1
    exact ⟨(97 + x % 8).toNat, by omega, by omega, by omega⟩
  rw [hc]
  have e1 : (16 + 30 * ((i : Int) % 4294967296)) % 4294967296 = 16 + 30 * (i : Int) := by omega
  have e2 : ((i : Int) + 1) % 18446744073709551616 = (i : Int) + 1 := by omega
  have e6 : IntKind.i64.wrap ((i : Int) + 1) = ((i + 1 : Nat) : Int) := wrap_i64 (by omega) (by omega)
  rw [e1, e2]
  subst ep
  have hlow := kL.low
  have hml := hgb.mp.lt
  have hxx := bx' u [.cells #[.int .u8 (c : Int)] 5, .cells #[.int .u32 1, .int .u32 (16 + 30 * (i : Int)), .int .i64 0, .int .u64 ((i : Int) + 1), .int .i64 1, .slice (some ⟨u.heap.size, 0, none⟩) 1 1, .slice none 0 0, .int .u32 0, .int .u32 0] 40]
  have hbs : Bs (ext u [.cells #[.int .u8 (c : Int)] 5, .cells #[.int .u32 1, .int .u32 (16 + 30 * (i : Int)), .int .i64 0, .int .u64 ((i : Int) + 1), .int .i64 1, .slice (some ⟨u.heap.size, 0, none⟩) 1 1, .slice none 0 0, .int .u32 0, .int .u32 0] 40]) (.slice (some ⟨u.heap.size, 0, none⟩) 1 1) [c] := ⟨_, _, _, rfl, by simp, At.of (hp_ext_at (i := 0) rfl)⟩
  have g1 := hp_ext_at (w := u) (L := [.cells #[.int .u8 (c : Int)] 5, .cells #[.int .u32 1, .int .u32 (16 + 30 * (i : Int)), .int .i64 0, .int .u64 ((i : Int) + 1), .int .i64 1, .slice (some ⟨u.heap.size, 0, none⟩) 1 1, .slice none 0 0, .int .u32 0, .int .u32 0] 40]) (i := 1) rfl
  generalize ext u [.cells #[.int .u8 (c : Int)] 5, .cells #[.int .u32 1, .int .u32 (16 + 30 * (i : Int)), .int .i64 0, .int .u64 ((i : Int) + 1), .int .i64 1, .slice (some ⟨u.heap.size, 0, none⟩) 1 1, .slice none 0 0, .int .u32 0, .int .u32 0] 40] = v1 at hxx hbs g1 ⊢
  have hck : ∀ x ∈ [c], x < 256 := by intro x hx; simp at hx; omega
  have kL1 := kL.bel hxx
  have hgb1 := hgb.bel hxx
  have hmq1 := hmq.bel hxx
  have hB1 := bt hB hxx
  have hwr := K.wrong
  have hfresh : look (1, 16 + 30 * (i : Int)) L.ahead = none := K.fresh i (by omega)
  refine c12 (s12 kL1 hbs hck (Nat.le_refl 1) (by rw [List.length_singleton]; decide) (.inl rfl) ⟨by omega, by omega⟩ (by rw [K.last]; omega) (by decide) ⟨by omega, by omega, by omega, by omega⟩ hfresh hB1.size (by omega) fun v2 L2 kL2 p2 q2 a2 r2 l2 F2 T2 => ?_)
  simp
  have hgb2 := hgb1.fr F2 n1 fun g cur hg => kL1.nrow hg (by decide) (by decide)
  have hmq2 := hmq1.keep (F2.block _ hmq1.lt n2)
  have hB2 : Bel w v2 := F2.below hB1 fun b hb => (kL1.low b hb).1
  have hlt1 := hp_lt g1
  have g2 := F2.get g1 fun h => by have := (hlow _ h).2; omega
  have m1' : ¬ L2.foot m1 := fun h => (T2 _ h).elim n1 fun h => by have := hgb1.mp.lt; omega
  have m2' : ¬ L2.foot (m1 + 1) := fun h => (T2 _ h).elim n2 fun h => by have := hmq1.lt; omega
  have hrun := run_look (k := (c : Int)) (z := (.slice none 0 0 : Value)) (E := 53) keyB Try.underlying51 zero_53 hgb2.mp false
  refine getR hrun ?_
  rw [show (if false = true then Value.tuple #[id ((look (c : Int) mb).getD (.slice none 0 0)), .bool (look (c : Int) mb).isSome] else id ((look (c : Int) mb).getD (.slice none 0 0))) = gsl (c : Int) mb from rfl]
  have hx3 := bx' v2 [.cells #[.int .u64 ((i : Int) + 1), .int .i64 1] 55]
  have g3 := hp_ext_at (w := v2) (L := [.cells #[.int .u64 ((i : Int) + 1), .int .i64 1] 55]) (i := 0) rfl
  rw [Nat.add_zero] at g3
  have hgb3 := hgb2.bel hx3
  have kL3 := kL2.bel hx3
  have hmq3 := hmq2.bel hx3
  have hB3 := bt hB2 hx3
  have g2 := bg hx3 g2
  generalize ext v2 [.cells #[.int .u64 ((i : Int) + 1), .int .i64 1] 55] = v3 at hx3 g2 g3 hgb3 kL3 hmq3 hB3 ⊢
  have hlen := idxs_length c ks
  have hsl3 := hgb3.sl (c : Int)
  refine app row53 encV_ok hsl3 (x := ⟨(i : Int) + 1, 1⟩) g3 rfl (by rw [versOf_length]; simp; omega) (by rw [versOf_length]; simp [maxLen]; omega) hB3.size fun v' w4 ho' hg' hv' => ?_
  obtain ⟨es3, cl3, hmap3, _⟩ := id hgb3.mp
  obtain ⟨eq3, cq3, hmaq3, _⟩ := id hmq3
  have nr1 : some m1 ≠ (gsl (c : Int) mb).ownBlock := hsl3.ne hmap3 (by intro cur e; cases e)
  have nr2 : some (m1 + 1) ≠ (gsl (c : Int) mb).ownBlock := hsl3.ne hmaq3 (by intro cur e; cases e)
  have nrg : some (u.heap.size + 1) ≠ (gsl (c : Int) mb).ownBlock := hsl3.ne g2 (by intro cur e; injection e with _ e; cases e)
  have hmp4 := hgb3.mp.keep (hg'.block _ hgb3.mp.lt nr1)
  have hmq4 := hmq3.keep (hg'.block _ hmq3.lt nr2)
  have g4 := grown_hp hg' g2 nrg
  have kL4 := kL3.keep (Fr.of_grown hg') fun b hb e => by
    obtain ⟨cur, hc⟩ := hsl3.row e
    exact kL3.nrow hc (by decide) (by decide) hb
  have hB4 : Bel w w4 := grown_bel hg' hB3 fun g hg => (hsl3.ge hg).1
  refine mupd (k := (c : Int)) (v := v') (ek := ekB) (ev := id) keyB Try.underlying51 hmp4 ?_
  rintro o1 _ hm1'
  have hgb5 := hgb3.step hg' ho' hv' hm1'
  have F5 : Fr (fun b => b = m1) w4 (upd w4 m1 o1) := Fr.upd (b := m1) (Fr.refl (fun b => b = m1) w4) (.inl rfl) o1
  have kL5 := kL4.keep F5 fun b hb e => m1' (e ▸ hb)
  have hmq5 := hmq4.keep (F5.block _ hmq4.lt (by omega))
  have g5 := F5.get g4 (by omega)
  have hB5 : Bel w (upd w4 m1 o1) := bu hB4 hle1 _
  generalize upd w4 m1 o1 = w5 at hgb5 kL5 hmq5 g5 hB5 ⊢
  simp [g5]
  refine mupd (k := locOf i) (v := (i : Int) + 1) (ek := ekL) (ev := evU) keyL Try.underlying52 hmq5 ?_
  rintro o2 _ hm2'
  have F6 : Fr (fun b => b = m1 + 1) w5 (upd w5 (m1 + 1) o2) := Fr.upd (b := m1 + 1) (Fr.refl (fun b => b = m1 + 1) w5) (.inl rfl) o2
  have kL6 := kL5.keep F6 fun b hb e => m2' (e ▸ hb)
  have hgb6 := hgb5.fr F6 (by omega) fun g cur hg e => by
    obtain ⟨es, cl, hh, _⟩ := hmq5
    rw [e, hh] at hg; cases hg
  have hB6 : Bel w (upd w5 (m1 + 1) o2) := bu hB5 n4 _
  rw [e6]
  refine ⟨⟨i + 1, rfl, ks ++ [c], by simp [hki], by omega, h1, hB6, L2, _, put (c : Int) v' mb, kL6, p2, ?_, ?_, ?_, hm2', m1', m2', n3, n4⟩, by simp [n0]; omega⟩
  · refine K.add (c := c) ?_ ?_ ?_ ?_ ?_
    · rw [q2, hki]
    · rw [a2, hki]; rfl
    · rw [r2]; split <;> simp
    · rw [l2, hki]
    · rw [hki]
  · have hf : (fun d : Int => if d = (c : Int) then versOf (idxs d.toNat ks) ++ [⟨(i : Int) + 1, 1⟩] else versOf (idxs d.toNat ks)) = fun d : Int => versOf (idxs d.toNat (ks ++ [c])) := by
      funext d
      rw [idxs_snoc]
      by_cases hd : d = (c : Int)
      · subst hd
        rw [if_pos rfl, Int.toNat_natCast, if_pos rfl]
        simp [versOf, hki]
      · rw [if_neg hd, if_neg (by omega)]
    rw [hf] at hgb6
    exact hgb6
  · intro d v hv
    rw [look_put] at hv
    by_cases hd : d = (c : Int)
    · omega
    · rw [if_neg hd] at hv; exact hmb d v hv
end Go.Proofs.Ytbcmoikpmmjlkaa
