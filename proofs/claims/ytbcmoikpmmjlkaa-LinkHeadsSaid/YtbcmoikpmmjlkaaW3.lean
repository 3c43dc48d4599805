/- Law 18: LinkHeads answers true. -/
import Derived.Test.YtbcmoikpmmjlkaaG
namespace Go.Proofs.Ytbcmoikpmmjlkaa
open Go Eng
set_option maxRecDepth 100000

def Fd.hd (f : Fd) : Hd := ⟨f.s, f.o, f.seq, f.kind⟩
def evF (f : Fd) : Value := .agg (encF f).toArray
/-- What links know once a first part of records is added, those of one key left out. -/
structure Knows (L : Lk) (fs : List Fd) (i : Nat) (out : Nat → Bool) : Prop where
  heads : ∀ c : Nat, look (prOf [c]) L.heads = if out c then none else (lastOf c (fs.take i)).map Fd.hd
  ahead : ∀ p, look p L.ahead ≠ none → ∃ f ∈ fs.take i, f.loc = p
  len : L.ahead.length = ((fs.take i).filter fun f => !out f.k).length
  last : ∀ (j : Nat) (f : Fd), fs[j]? = some f → i ≤ j → L.last < f.seq
  wrong : L.wrong = []
theorem lastOf_mem {c : Nat} {fs : List Fd} {f : Fd} (h : lastOf c fs = some f) : f ∈ fs ∧ f.k = c := by
  have := List.mem_of_getLast? h
  have := List.mem_filter.1 this
  exact ⟨this.1, by simpa using this.2⟩
theorem Good.fresh {fs : List Fd} (h : Good fs) {i : Nat} {f : Fd} (hi : fs[i]? = some f) : ∀ g ∈ fs.take i, g.loc ≠ f.loc := by
  intro g hg e
  obtain ⟨j, hj⟩ := List.getElem?_of_mem hg
  have hji : j < i := by
    have := (List.getElem?_eq_some_iff.1 hj).1
    rw [List.length_take] at this
    omega
  rw [List.getElem?_take, if_pos hji] at hj
  obtain ⟨_, _, _, _, _, s1, o1, _⟩ := h.at_ j g hj
  obtain ⟨_, _, _, _, _, s2, o2, _⟩ := h.at_ i f hi
  injection e with e1 e2
  omega
theorem Good.prev {fs : List Fd} (h : Good fs) (hl : fs.length ≤ 60) {i : Nat} {f : Fd} (hi : fs[i]? = some f) : locMay f.ps f.po = true := by
  have hp := (h.at_ i f hi).2.2.2.2.2.2.2
  unfold prevOf at hp
  cases e : lastOf f.k (fs.take i) with
  | none => rw [e] at hp; injection hp with h1 h2; rw [h1, h2]; rfl
  | some g =>
    rw [e] at hp
    injection hp with h1 h2
    obtain ⟨j, hj⟩ := List.getElem?_of_mem (List.mem_of_mem_take (lastOf_mem e).1)
    have hjl := (List.getElem?_eq_some_iff.1 hj).1
    obtain ⟨_, _, _, _, _, s1, o1, _⟩ := h.at_ j g hj
    rw [h1, h2]
    exact decide_eq_true (.inr (by omega))
theorem take_snoc {fs : List Fd} {i : Nat} {f : Fd} (hi : fs[i]? = some f) : fs.take (i + 1) = fs.take i ++ [f] := by
  rw [List.take_add_one, hi]; rfl
/-- Links behind one more record. -/
theorem Knows.add {L L' : Lk} {fs : List Fd} {i : Nat} {out : Nat → Bool} (h : Knows L fs i out) (hg : Good fs) {f : Fd} (hi : fs[i]? = some f) (ho : out f.k = false)
    (h1 : L'.heads = put (prOf [f.k]) f.hd L.heads) (h2 : L'.ahead = put f.loc (bef L [f.k]) L.ahead) (h3 : L'.wrong = if bef L [f.k] = (f.ps, f.po) then L.wrong else L.wrong ++ [f.loc]) (h4 : L'.last = f.seq) : Knows L' fs (i + 1) out := by
  have hno : look f.loc L.ahead = none := by
    cases e : look f.loc L.ahead with
    | none => rfl
    | some v =>
      obtain ⟨g, hg1, hg2⟩ := h.ahead f.loc (by rw [e]; simp)
      exact absurd hg2 (hg.fresh hi g hg1)
  have hb : bef L [f.k] = (f.ps, f.po) := by
    rw [(hg.at_ i f hi).2.2.2.2.2.2.2]
    unfold bef prevOf
    rw [h.heads f.k, ho]
    cases lastOf f.k (fs.take i) <;> rfl
  refine ⟨?_, ?_, ?_, ?_, ?_⟩
  · intro c
    rw [h1, look_put, take_snoc hi, lastOf_snoc, h.heads c]
    by_cases hc : f.k = c
    · subst hc
      rw [if_pos rfl, if_pos rfl, ho]; rfl
    · rw [if_neg hc, if_neg (fun e => by rw [prOf_one, prOf_one] at e; injection e with _ e; omega)]
  · intro p hp
    rw [h2, look_put] at hp
    rw [take_snoc hi]
    by_cases hpe : p = f.loc
    · exact ⟨f, by simp, hpe.symm⟩
    · rw [if_neg hpe] at hp
      obtain ⟨g, hg1, hg2⟩ := h.ahead p hp
      exact ⟨g, by simp [hg1], hg2⟩
  · rw [h2, put_length, hno, take_snoc hi, List.filter_append, List.length_append, h.len]
    simp [ho]
  · intro j g hj hij
    rw [h4]
    exact hg.up i j f g hi hj (by omega)
  · rw [h3, if_pos hb, h.wrong]
/-- Links that are left as they are. -/
theorem Knows.skip {L : Lk} {fs : List Fd} {i : Nat} {out : Nat → Bool} (h : Knows L fs i out) {f : Fd} (hi : fs[i]? = some f) (ho : out f.k = true) : Knows L fs (i + 1) out := by
  refine ⟨?_, ?_, ?_, ?_, h.wrong⟩
  · intro c
    rw [h.heads c, take_snoc hi, lastOf_snoc]
    by_cases hc : f.k = c
    · subst hc; rw [ho]; rfl
    · rw [if_neg hc]
  · intro p hp
    obtain ⟨g, hg1, hg2⟩ := h.ahead p hp
    exact ⟨g, by rw [take_snoc hi]; simp [hg1], hg2⟩
  · rw [take_snoc hi, List.filter_append, h.len]
    simp [ho]
  · intro j g hj hij
    exact h.last j g hj (by omega)
theorem Knows.start {p hm am : Nat} {fs : List Fd} (hg : Good fs) (out : Nat → Bool) : Knows ⟨p, hm, am, .slice none 0 0, [], [], [], 0⟩ fs 0 out :=
  ⟨fun c => by cases out c <;> rfl, fun p hp => absurd rfl hp, rfl, fun j f hj _ => by have := (hg.at_ j f hj).2.2.2.1; show (0 : Int) < f.seq; omega, rfl⟩
theorem filter_count {α : Type} (p : α → Bool) : ∀ l : List α, l.length = (l.filter p).length + (l.filter fun x => !p x).length
  | [] => rfl
  | a :: l => by
    have := filter_count p l
    cases h : p a <;> simp [h] <;> omega
/-- What the first loop of LinkHeads keeps. -/
structure LHInv (W w : World) (Bx By px py lm : Nat) (fs : List Fd) (gone : Nat) (i : Nat) : Prop where
  bel : Bel W w
  ex : ∃ Lx Ly lst, LkOk w Bx Lx ∧ LkOk w By Ly ∧ Lx.p = px ∧ Ly.p = py ∧ (∀ b, Lx.foot b → ¬ Ly.foot b) ∧ ¬ Lx.foot lm ∧ ¬ Ly.foot lm ∧
    Knows Lx fs i (fun _ => false) ∧ Knows Ly fs i (fun c => decide (c = gone)) ∧ Mp w lm ekB evF lst ∧ ∀ c : Nat, look (c : Int) lst = lastOf c (fs.take i)
theorem s3 {w : World} {av : Value} {l : List Stp} (ha : Rd w 3 encSt av l) (hl : ∀ x ∈ l, x.ok) {o : Int} (ho : 0 ≤ o ∧ o ≤ 255) {R : Value → World → Prop} (hR : ∀ w', Bel w w' → R (.bool true) w') : F3 av (.int .u8 o) w R := by
  unfold F3
  refine c10 (s10 ha hl fun W out m fs mb hbW hown hby hgood hkeys hlen => ?_)
  simp
  obtain ⟨gone, hgone, hg97, hg104⟩ : ∃ gone : Nat, (97 + o.tmod 8) % 256 = (gone : Int) ∧ 97 ≤ gone ∧ gone ≤ 104 := by
    have : o.tmod 8 = o % 8 := Int.tmod_eq_emod_of_nonneg ho.1
    exact ⟨(97 + o % 8).toNat, by omega, by omega, by omega⟩
  rw [hgone]
  refine c11 (s11 fun w1 px hx ax hb1 hLx => ?_)
  refine c11 (s11 fun w2 py hy ay hb2 hLy => ?_)
  refine mkmap ?_
  have hx3 := bx' w2 [.map #[] 0]
  have hmp := Mp.new w2 ekB evF
  have hsz := hb1.size
  have hsz2 := hb2.size
  refine ⟨fun s u => ∃ i : Nat, s = [.int .i64 (i : Nat)] ∧ i ≤ fs.length ∧ LHInv W u W.heap.size w1.heap.size px py w2.heap.size fs gone i, fun s _ => (fs.length + 1 - n0 s 0).toNat, ⟨0, rfl, by omega, bt (bt hb1 hb2) hx3, _, _, [], (hLx.bel hb2).bel hx3, hLy.bel hx3, rfl, rfl, ?_, ?_, ?_, Knows.start hgood _, Knows.start hgood _, hmp, fun c => rfl⟩, ?_⟩
  · intro b h1 h2
    have := (hLx.low b h1).2
    have := (hLy.low b h2).1
    omega
  · intro h; have := ((hLx.bel hb2).low _ h).2; omega
  · intro h; have := (hLy.low _ h).2; omega
  clear hmp hx3
  rintro s u ⟨i, rfl, hi, hB, Lx, Ly, lst, kx, ky, ex, ey, hdis, hnx, hny, Kx, Ky, hml, hlst⟩
  obtain ⟨oa, oc, hof⟩ := (hown.rd encF_ok).form
  have hrd := hown.rd encF_ok
  rw [hof] at hrd ⊢
  simp
  refine ifD (fun h1 => ?_) (fun h1 => ?_)
  · obtain ⟨f, hf⟩ : ∃ f, fs[i]? = some f := ⟨fs[i], List.getElem?_eq_getElem h1⟩
    obtain ⟨b, of, c2, ⟨off, hoff, hsl⟩, hat⟩ := hrd.at hf
    injection hsl with hsl _ _
    subst hsl
    have e6 : IntKind.i64.wrap ((i : Int) + 1) = ((i + 1 : Nat) : Int) := wrap_i64 (by omega) (by omega)
    rw [idxR (T := 23) (k := 9) (by kernel_rfl) h1, ← hoff]
    simp [(hat.bel hB).cells0, encF]
    have hfm := List.mem_of_getElem? hf
    have hkf := hkeys f hfm
    obtain ⟨f1, f2, f3, f4, f5, f6, f7, f8⟩ := hgood.at_ i f hf
    have hByW : W.heap.size ≤ w1.heap.size := hsz
    have hprev := hgood.prev hlen hf
    have hfl : 1 ≤ f.s ∧ f.s ≤ 16777215 ∧ 16 ≤ f.o ∧ f.o ≤ 16777216 := by omega
    have hkk : ∀ x ∈ [f.k], x < 256 := by intro x hx; simp at hx; omega
    have hk1 : 1 ≤ [f.k].length := Nat.le_refl _
    have hk64 : [f.k].length ≤ 64 := by rw [List.length_singleton]; decide
    have hseq : 1 ≤ f.seq ∧ f.seq ≤ 1099511627776 := by omega
    have hfresh : ∀ {L : Lk} {g}, Knows L fs i g → look (f.s, f.o) L.ahead = none := by
      intro L g K
      cases e : look (f.s, f.o) L.ahead with
      | none => rfl
      | some v =>
        obtain ⟨g, hg1, hg2⟩ := K.ahead (f.s, f.o) (by rw [e]; simp)
        exact absurd hg2 (hgood.fresh hf g hg1)
    subst ex
    subst ey
    refine c12 (s12 kx (hkf.bs.bel hB) hkk hk1 hk64 f3 hseq (Kx.last i f hf (Nat.le_refl _)) hprev hfl (hfresh Kx) hB.size (by rw [Kx.wrong]; decide) fun v1 Lx1 kx1 p1 q1 a1 r1 l1 F1 T1 => ?_)
    have Kx1 := Kx.add hgood hf rfl q1 a1 r1 l1
    have hB1 : Bel W v1 := F1.below hB fun b hb => (kx.low b hb).1
    have ky1 := ky.keep F1 fun b hb hb2 => hdis b hb2 hb
    have hm1 := hml.keep (F1.block _ hml.lt hnx)
    rw [idxR (T := 23) (k := 9) (by kernel_rfl) h1, ← hoff]
    simp [(hat.bel hB1).cell2, encF]
    obtain ⟨kb', ko', kc', ek, _, katt⟩ := hkf.bs
    injection ek with ek _ _
    injection ek with ek
    injection ek with ek eko _
    subst ek
    subst eko
    have hkb := (katt.bel hB1).cell0 (by simp)
    rw [← p1]
    rw [hkb]
    simp [byC]
    rw [idxR (T := 23) (k := 9) (by kernel_rfl) h1, ← hoff]
    simp [(hat.bel hB1).cells0, encF]
    have hlmu := hml.lt
    have hnx1 : ¬ Lx1.foot w2.heap.size := fun h => (T1 _ h).elim hnx fun h => by omega
    have hdis1 : ∀ b, Lx1.foot b → ¬ Ly.foot b := fun b hb hb2 => (T1 b hb).elim (fun h => hdis b h hb2) fun h => by have := (ky.low b hb2).2; omega
    refine mupd (k := (f.k : Int)) (v := f) (ek := ekB) (ev := evF) keyB Try.underlying29 hm1 ?_
    rintro o2 _ hm2
    have F2 : Fr (fun b => b = w2.heap.size) v1 (upd v1 w2.heap.size o2) := Fr.upd (b := w2.heap.size) (Fr.refl (fun b => b = w2.heap.size) v1) (.inl rfl) o2
    have kx2 := kx1.keep F2 fun b hb e => hnx1 (e ▸ hb)
    have ky2 := ky1.keep F2 fun b hb e => hny (e ▸ hb)
    have hB2 : Bel W (upd v1 w2.heap.size o2) := bu hB1 (by omega) o2
    have hl2 : ∀ c : Nat, look (c : Int) (put (f.k : Int) f lst) = lastOf c (fs.take (i + 1)) := by
      intro c
      rw [look_put, take_snoc hf, lastOf_snoc]
      by_cases hc : f.k = c
      · rw [if_pos hc, if_pos (by omega)]
      · rw [if_neg hc, if_neg (by omega)]; exact hlst c
    generalize upd v1 w2.heap.size o2 = v2 at hm2 kx2 ky2 hB2 ⊢
    refine ifB (fun h5 => ?_) (fun h5 => ?_)
    · rw [idxR (T := 23) (k := 9) (by kernel_rfl) h1, ← hoff]
      simp [(hat.bel hB2).cells0, encF]
      refine c12 (s12 ky2 (hkf.bs.bel hB2) hkk hk1 hk64 f3 hseq (Ky.last i f hf (Nat.le_refl _)) hprev hfl (hfresh Ky) (by have := hb1.size; have := ky2.low _ (.inl rfl); omega) (by rw [Ky.wrong]; decide) fun v3 Ly3 ky3 p3 q3 a3 r3 l3 F3 T3 => ?_)
      simp
      have Ky3 := Ky.add hgood hf (decide_eq_false fun e => by simp [e] at h5) q3 a3 r3 l3
      have hm3 := hm2.keep (F3.block _ hm2.lt hny)
      refine ⟨⟨i + 1, e6, h1, F3.below hB2 fun b hb => Nat.le_trans hsz (ky.low b hb).1, Lx1, Ly3, _, kx2.keep F3 hdis1, ky3, rfl, p3, ?_, hnx1, ?_, Kx1, Ky3, hm3, hl2⟩, ?_⟩
      · intro b hb hb2
        rcases T3 b hb2 with h | h
        · exact hdis1 b hb h
        · have := (kx2.low b hb).2; omega
      · intro h
        rcases T3 _ h with h | h
        · exact hny h
        · have := hm2.lt; omega
      · rw [e6]; simp [n0]; omega
    · have h5' : f.k = gone := by
        have : (f.k : Int) = gone := by simpa using h5
        omega
      refine ⟨⟨i + 1, e6, h1, hB2, Lx1, Ly, _, kx2, ky2, rfl, rfl, hdis1, hnx1, hny, Kx1, Ky.skip hf (decide_eq_true h5'), hm2, hl2⟩, ?_⟩
      rw [e6]; simp [n0]; omega
  · have hi0 : i = fs.length := by omega
    subst hi0
    have hxs := Kx.heads
    have hys := Ky.heads
    simp only [List.take_length] at hxs hys hlst
    subst ex
    subst ey
    refine ⟨fun s v => ∃ c : Nat, s = [.int .u8 (c : Nat)] ∧ 97 ≤ c ∧ c ≤ 105 ∧ Bel u v, fun s _ => (106 - n0 s 0).toNat, ⟨97, rfl, by omega, by omega, br u⟩, ?_⟩
    rintro s v ⟨c, rfl, hc1, hc2, hv⟩
    simp
    refine ifD (fun h2 => ?_) (fun h2 => ?_)
    · have hck : ∀ x ∈ [c], x < 256 := by intro x hx; simp at hx; omega
      have b1 := bt hv (bx' v [.cells #[.int .u8 (c : Int)] 5])
      have hbs : Bs (ext v [.cells #[.int .u8 (c : Int)] 5]) (.slice (some ⟨v.heap.size, 0, none⟩) 1 1) [c] := ⟨_, _, _, rfl, by simp, At.of (hp_new v _)⟩
      generalize ext v [.cells #[.int .u8 (c : Int)] 5] = v1 at b1 hbs ⊢
      have kx1 := kx.bel b1
      have hX := hxs c
      have hY := hys c
      have hL := hlst c
      have e6 : (c + 1 : Int) % 256 = ((c + 1 : Nat) : Int) := by omega
      cases he : lastOf c fs with
      | none =>
        rw [he] at hX hY hL
        by_cases hcg : c = gone
        · rw [decide_eq_true hcg] at hY
          simp only [Bool.false_eq_true, if_false, if_true, Option.map_none] at hX hY hL
          refine c13 (s13 kx1 hbs hck (Nat.le_refl 1) (by rw [List.length_singleton]; decide) fun v2 b2 => ?_)
          rw [hX]
          simp [evH]
          have b4 := bt b1 (bt b2 (bx' v2 [.cells #[.int .u32 0, .int .u32 0, .int .u64 0, .int .i64 0] 42, .cells #[.int .u8 (c : Int)] 5]))
          have gx : hp (ext v2 [.cells #[.int .u32 0, .int .u32 0, .int .u64 0, .int .i64 0] 42, .cells #[.int .u8 (c : Int)] 5]) v2.heap.size = some (.cells #[.int .u32 0, .int .u32 0, .int .u64 0, .int .i64 0] 42) := by simp
          have gk : hp (ext v2 [.cells #[.int .u32 0, .int .u32 0, .int .u64 0, .int .i64 0] 42, .cells #[.int .u8 (c : Int)] 5]) (v2.heap.size + 1) = some (.cells #[.int .u8 (c : Int)] 5) := by simp
          have hbs2 : Bs (ext v2 [.cells #[.int .u32 0, .int .u32 0, .int .u64 0, .int .i64 0] 42, .cells #[.int .u8 (c : Int)] 5]) (.slice (some ⟨v2.heap.size + 1, 0, none⟩) 1 1) [c] := ⟨_, _, _, rfl, by simp, At.of gk⟩
          generalize ext v2 [.cells #[.int .u32 0, .int .u32 0, .int .u64 0, .int .i64 0] 42, .cells #[.int .u8 (c : Int)] 5] = v4 at b4 hbs2 gx ⊢
          refine c13 (s13 (ky.bel b4) hbs2 hck (Nat.le_refl 1) (by rw [List.length_singleton]; decide) fun v5 b5 => ?_)
          rw [hY]
          simp [evH]
          have gx := bg b5 gx
          have b5' := bt b4 b5
          have b6 := bt b5' (bx' v5 [.cells #[.int .u32 0, .int .u32 0, .int .u64 0, .int .i64 0] 42])
          have hrun := run_lookup (k := (c : Int)) keyB Try.underlying29 zero_40 (hml.bel b6) true
          rw [hL] at hrun
          refine getR hrun ?_
          simp [evF, encF, gx, hcg]
          first
          | exact ⟨⟨c + 1, by omega, by omega, by omega, bx b5' _⟩, by simp [n0]; omega⟩
          | (simp [hcg] at hc1 hc2 e6 ⊢; exact ⟨⟨gone + 1, by omega, by omega, by omega, bx b5' _⟩, by simp [n0]; omega⟩)
          | (have hcgI : ¬ ((c : Int) = (gone : Int)) := by omega
             simp [hcgI]
             exact ⟨⟨c + 1, by omega, by omega, by omega, bx b5' _⟩, by simp [n0]; omega⟩)

        · rw [decide_eq_false hcg] at hY
          simp only [Bool.false_eq_true, if_false, if_true, Option.map_none] at hX hY hL
          refine c13 (s13 kx1 hbs hck (Nat.le_refl 1) (by rw [List.length_singleton]; decide) fun v2 b2 => ?_)
          rw [hX]
          simp [evH]
          have b4 := bt b1 (bt b2 (bx' v2 [.cells #[.int .u32 0, .int .u32 0, .int .u64 0, .int .i64 0] 42, .cells #[.int .u8 (c : Int)] 5]))
          have gx : hp (ext v2 [.cells #[.int .u32 0, .int .u32 0, .int .u64 0, .int .i64 0] 42, .cells #[.int .u8 (c : Int)] 5]) v2.heap.size = some (.cells #[.int .u32 0, .int .u32 0, .int .u64 0, .int .i64 0] 42) := by simp
          have gk : hp (ext v2 [.cells #[.int .u32 0, .int .u32 0, .int .u64 0, .int .i64 0] 42, .cells #[.int .u8 (c : Int)] 5]) (v2.heap.size + 1) = some (.cells #[.int .u8 (c : Int)] 5) := by simp
          have hbs2 : Bs (ext v2 [.cells #[.int .u32 0, .int .u32 0, .int .u64 0, .int .i64 0] 42, .cells #[.int .u8 (c : Int)] 5]) (.slice (some ⟨v2.heap.size + 1, 0, none⟩) 1 1) [c] := ⟨_, _, _, rfl, by simp, At.of gk⟩
          generalize ext v2 [.cells #[.int .u32 0, .int .u32 0, .int .u64 0, .int .i64 0] 42, .cells #[.int .u8 (c : Int)] 5] = v4 at b4 hbs2 gx ⊢
          refine c13 (s13 (ky.bel b4) hbs2 hck (Nat.le_refl 1) (by rw [List.length_singleton]; decide) fun v5 b5 => ?_)
          rw [hY]
          simp [evH]
          have gx := bg b5 gx
          have b5' := bt b4 b5
          have b6 := bt b5' (bx' v5 [.cells #[.int .u32 0, .int .u32 0, .int .u64 0, .int .i64 0] 42])
          have hrun := run_lookup (k := (c : Int)) keyB Try.underlying29 zero_40 (hml.bel b6) true
          rw [hL] at hrun
          refine getR hrun ?_
          simp [evF, encF, gx, hcg]
          first
          | exact ⟨⟨c + 1, by omega, by omega, by omega, bx b5' _⟩, by simp [n0]; omega⟩
          | (simp [hcg] at hc1 hc2 e6 ⊢; exact ⟨⟨gone + 1, by omega, by omega, by omega, bx b5' _⟩, by simp [n0]; omega⟩)
          | (have hcgI : ¬ ((c : Int) = (gone : Int)) := by omega
             simp [hcgI]
             exact ⟨⟨c + 1, by omega, by omega, by omega, bx b5' _⟩, by simp [n0]; omega⟩)

      | some f =>
        rw [he] at hX hY hL
        by_cases hcg : c = gone
        · rw [decide_eq_true hcg] at hY
          simp only [Bool.false_eq_true, if_false, if_true, Option.map_some, Fd.hd] at hX hY hL
          refine c13 (s13 kx1 hbs hck (Nat.le_refl 1) (by rw [List.length_singleton]; decide) fun v2 b2 => ?_)
          rw [hX]
          simp [evH]
          have b4 := bt b1 (bt b2 (bx' v2 [.cells #[.int .u32 f.s, .int .u32 f.o, .int .u64 f.seq, .int .i64 f.kind] 42, .cells #[.int .u8 (c : Int)] 5]))
          have gx : hp (ext v2 [.cells #[.int .u32 f.s, .int .u32 f.o, .int .u64 f.seq, .int .i64 f.kind] 42, .cells #[.int .u8 (c : Int)] 5]) v2.heap.size = some (.cells #[.int .u32 f.s, .int .u32 f.o, .int .u64 f.seq, .int .i64 f.kind] 42) := by simp
          have gk : hp (ext v2 [.cells #[.int .u32 f.s, .int .u32 f.o, .int .u64 f.seq, .int .i64 f.kind] 42, .cells #[.int .u8 (c : Int)] 5]) (v2.heap.size + 1) = some (.cells #[.int .u8 (c : Int)] 5) := by simp
          have hbs2 : Bs (ext v2 [.cells #[.int .u32 f.s, .int .u32 f.o, .int .u64 f.seq, .int .i64 f.kind] 42, .cells #[.int .u8 (c : Int)] 5]) (.slice (some ⟨v2.heap.size + 1, 0, none⟩) 1 1) [c] := ⟨_, _, _, rfl, by simp, At.of gk⟩
          generalize ext v2 [.cells #[.int .u32 f.s, .int .u32 f.o, .int .u64 f.seq, .int .i64 f.kind] 42, .cells #[.int .u8 (c : Int)] 5] = v4 at b4 hbs2 gx ⊢
          refine c13 (s13 (ky.bel b4) hbs2 hck (Nat.le_refl 1) (by rw [List.length_singleton]; decide) fun v5 b5 => ?_)
          rw [hY]
          simp [evH]
          have gx := bg b5 gx
          have b5' := bt b4 b5
          have b6 := bt b5' (bx' v5 [.cells #[.int .u32 0, .int .u32 0, .int .u64 0, .int .i64 0] 42])
          have hrun := run_lookup (k := (c : Int)) keyB Try.underlying29 zero_40 (hml.bel b6) true
          rw [hL] at hrun
          refine getR hrun ?_
          simp [evF, encF, gx, hcg]
          first
          | exact ⟨⟨c + 1, by omega, by omega, by omega, bx b5' _⟩, by simp [n0]; omega⟩
          | (simp [hcg] at hc1 hc2 e6 ⊢; exact ⟨⟨gone + 1, by omega, by omega, by omega, bx b5' _⟩, by simp [n0]; omega⟩)
          | (have hcgI : ¬ ((c : Int) = (gone : Int)) := by omega
             simp [hcgI]
             exact ⟨⟨c + 1, by omega, by omega, by omega, bx b5' _⟩, by simp [n0]; omega⟩)

        · rw [decide_eq_false hcg] at hY
          simp only [Bool.false_eq_true, if_false, if_true, Option.map_some, Fd.hd] at hX hY hL
          refine c13 (s13 kx1 hbs hck (Nat.le_refl 1) (by rw [List.length_singleton]; decide) fun v2 b2 => ?_)
          rw [hX]
          simp [evH]
          have b4 := bt b1 (bt b2 (bx' v2 [.cells #[.int .u32 f.s, .int .u32 f.o, .int .u64 f.seq, .int .i64 f.kind] 42, .cells #[.int .u8 (c : Int)] 5]))
          have gx : hp (ext v2 [.cells #[.int .u32 f.s, .int .u32 f.o, .int .u64 f.seq, .int .i64 f.kind] 42, .cells #[.int .u8 (c : Int)] 5]) v2.heap.size = some (.cells #[.int .u32 f.s, .int .u32 f.o, .int .u64 f.seq, .int .i64 f.kind] 42) := by simp
          have gk : hp (ext v2 [.cells #[.int .u32 f.s, .int .u32 f.o, .int .u64 f.seq, .int .i64 f.kind] 42, .cells #[.int .u8 (c : Int)] 5]) (v2.heap.size + 1) = some (.cells #[.int .u8 (c : Int)] 5) := by simp
          have hbs2 : Bs (ext v2 [.cells #[.int .u32 f.s, .int .u32 f.o, .int .u64 f.seq, .int .i64 f.kind] 42, .cells #[.int .u8 (c : Int)] 5]) (.slice (some ⟨v2.heap.size + 1, 0, none⟩) 1 1) [c] := ⟨_, _, _, rfl, by simp, At.of gk⟩
          generalize ext v2 [.cells #[.int .u32 f.s, .int .u32 f.o, .int .u64 f.seq, .int .i64 f.kind] 42, .cells #[.int .u8 (c : Int)] 5] = v4 at b4 hbs2 gx ⊢
          refine c13 (s13 (ky.bel b4) hbs2 hck (Nat.le_refl 1) (by rw [List.length_singleton]; decide) fun v5 b5 => ?_)
          rw [hY]
          simp [evH]
          have gx := bg b5 gx
          have b5' := bt b4 b5
          have b6 := bt b5' (bx' v5 [.cells #[.int .u32 f.s, .int .u32 f.o, .int .u64 f.seq, .int .i64 f.kind] 42])
          have hrun := run_lookup (k := (c : Int)) keyB Try.underlying29 zero_40 (hml.bel b6) true
          rw [hL] at hrun
          refine getR hrun ?_
          simp [evF, encF, gx, hcg]
          first
          | exact ⟨⟨c + 1, by omega, by omega, by omega, bx b5' _⟩, by simp [n0]; omega⟩
          | (simp [hcg] at hc1 hc2 e6 ⊢; exact ⟨⟨gone + 1, by omega, by omega, by omega, bx b5' _⟩, by simp [n0]; omega⟩)
          | (have hcgI : ¬ ((c : Int) = (gone : Int)) := by omega
             simp [hcgI]
             exact ⟨⟨c + 1, by omega, by omega, by omega, bx b5' _⟩, by simp [n0]; omega⟩)
    · have hvB := bt hB hv
      have hd := bd (br v)
      refine drawn' (St0 := Bel v) hd fun St hS => ?_
      have hby' : ∀ a, St a → ByOk a w.heap.size m mb fs := fun a ha => hby.bel (bt hvB ((hS a).1 ha))
      have hsl := (hby' _ ((hS v.drew).2 hd)).sl gone
      obtain ⟨sa, sc, hsf⟩ := (hsl.rd encL_ok).form
      have hrun : ∀ a, St a → (Instr.lookup 24 (.map (some m)) (.int .u8 (gone : Int)) false).run Pg a = .ok (.slice sa (ofKey gone fs).length sc) a := fun a ha => by
        have := run_look (k := (gone : Int)) (z := (.slice none 0 0 : Value)) (E := 47) keyB Try.underlying24 zero_47 (hby' a ha).mp false
        rw [show (look (gone : Int) mb).getD (.slice none 0 0) = slOf gone mb from rfl, hsf, List.length_map] at this
        exact this
      refine readP_run hrun ?_
      simp
      have kyv := ky.bel (bt hv hd)
      refine c14 (s14 kyv ⟨(hS _).2 hd, ?_⟩)
      have hcount : (Ly.ahead.length : Int) = IntKind.i64.wrap ((fs.length : Int) - ((ofKey gone fs).length : Int)) := by
        have h1 := Ky.len
        rw [List.take_length] at h1
        have h2 := filter_count (fun f : Fd => decide (f.k = gone)) fs
        have h3 : (ofKey gone fs).length = (fs.filter fun f => decide (f.k = gone)).length := rfl
        rw [wrap_i64 (by omega) (by omega), h1, h3]
        omega
      rw [← hcount]
      simp
      refine c15 (s15 kyv (by rw [Ky.wrong]; decide) fun wv v1 b1 ho1 => ⟨(hS _).2 (bt hd b1), ?_⟩)
      rw [Ky.wrong] at ho1
      obtain ⟨wa, wc, hwf⟩ := (ho1.rd encL_ok).form
      subst hwf
      simp
      refine c16 (s16 fun v2 b2 => ⟨(hS _).2 (bt (bt hd b1) b2), ?_⟩)
      exact hR _ (bt hbW (bt hvB (bt (bt hd b1) b2)))
end Go.Proofs.Ytbcmoikpmmjlkaa
