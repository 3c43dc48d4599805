/- Law 25: writes' items, and the newest one. -/
import Derived.Test.YtbcmoikpmmjlkaaP8
namespace Go.Proofs.Ytbcmoikpmmjlkaa
open Go Eng
set_option maxRecDepth 100000
/-- A write. -/
structure Wr where
  key : Int
  gone : Bool
  more : Int
  gap : Int
instance : Inhabited Wr := ⟨⟨0, false, 0, 0⟩⟩
def encWr (x : Wr) : List Value := [.int .u8 x.key, .bool x.gone, .int .u16 x.more, .int .u8 x.gap]
theorem encWr_ok : Enc 4 encWr := ⟨fun _ => rfl, fun x u hu => by simp [encWr] at hu; rcases hu with rfl | rfl | rfl | rfl <;> rfl, by decide⟩
def Wr.ok (x : Wr) : Prop := (0 ≤ x.key ∧ x.key ≤ 255) ∧ (0 ≤ x.more ∧ x.more ≤ 65535) ∧ (0 ≤ x.gap ∧ x.gap ≤ 255)
/-- The last number behind some writes. -/
def seqW (l : List Wr) : Int := (l.map fun x => 1 + x.gap % 4).sum
def itW (pre : List Wr) (x : Wr) : Itm := ⟨[107, (x.key % 5).toNat], seqW pre + (1 + x.gap % 4), if x.gone then 2 else 1, 25 + x.more % 1089⟩
def itemsW (l : List Wr) : List Itm := (List.range l.length).map fun i => itW (l.take i) (l.getD i default)
theorem itemsW_length (l : List Wr) : (itemsW l).length = l.length := by simp [itemsW]
theorem seqW_snoc (l : List Wr) (x : Wr) : seqW (l ++ [x]) = seqW l + (1 + x.gap % 4) := by simp [seqW]
theorem itemsW_snoc (l : List Wr) (x : Wr) : itemsW (l ++ [x]) = itemsW l ++ [itW l x] := by
  unfold itemsW
  rw [List.length_append, List.length_singleton, List.range_succ, List.map_append]
  congr 1
  · apply List.map_congr_left
    intro i hi
    have hi := List.mem_range.1 hi
    rw [List.take_append_of_le_length (by omega), List.getD_eq_getElem?_getD, List.getElem?_append_left hi, ← List.getD_eq_getElem?_getD]
  · simp
theorem seqW_bounds : ∀ l : List Wr, (∀ x ∈ l, x.ok) → 0 ≤ seqW l ∧ seqW l ≤ 4 * (l.length : Int)
  | [], _ => by simp [seqW]
  | x :: l, h => by
    have := seqW_bounds l fun y hy => h y (List.mem_cons_of_mem _ hy)
    have hx := h x List.mem_cons_self
    unfold seqW at this ⊢
    rw [List.map_cons, List.sum_cons, List.length_cons]
    obtain ⟨_, _, h3⟩ := hx
    omega
theorem mayI_snoc {x : Itm} : ∀ {l : List Itm} {last : Int}, mayI last l = true → (∀ y ∈ l, y.seq < x.seq) → last < x.seq → (∀ m, m < x.seq → ¬ x.bad m) → mayI last (l ++ [x]) = true
  | [], last, _, _, h2, h3 => by
    simp only [List.nil_append, mayI]
    rw [if_neg (h3 last h2)]
  | y :: l, last, h, h1, h2, h3 => by
    simp only [List.cons_append, mayI] at h ⊢
    split at h
    · cases h
    · rename_i hb
      rw [if_neg hb]
      exact mayI_snoc h (fun z hz => h1 z (List.mem_cons_of_mem _ hz)) (h1 y List.mem_cons_self) h3
theorem itW_ok {pre : List Wr} {x : Wr} (hp : ∀ y ∈ pre, y.ok) (hx : x.ok) (hl : pre.length ≤ 1000) : ∀ m, m < (itW pre x).seq → ¬ (itW pre x).bad m := by
  intro m hm
  have hs := seqW_bounds pre hp
  obtain ⟨h1, h2, h3⟩ := hx
  unfold itW at hm ⊢
  unfold Itm.bad
  dsimp only at hm ⊢
  have hk : (if x.gone = true then (2 : Int) else 1) = 1 ∨ (if x.gone = true then (2 : Int) else 1) = 2 := by cases x.gone <;> simp
  generalize (if x.gone = true then (2 : Int) else 1) = kk at hk ⊢
  rintro (h | h | h | h | h | h)
  · exact h ⟨by simp, by simp⟩
  · omega
  · omega
  · omega
  · omega
  · omega
theorem itemsW_may : ∀ (l : List Wr), (∀ x ∈ l, x.ok) → l.length ≤ 1000 → mayI 0 (itemsW l) = true ∧ ∀ y ∈ itemsW l, y.seq ≤ seqW l := by
  intro l h hl
  have key : ∀ n, n ≤ l.length → mayI 0 (itemsW (l.take n)) = true ∧ ∀ y ∈ itemsW (l.take n), y.seq ≤ seqW (l.take n) := by
    intro n
    induction n with
    | zero => intro _; exact ⟨rfl, fun y hy => by simp [itemsW] at hy⟩
    | succ n ih =>
      intro hn
      obtain ⟨i1, i2⟩ := ih (by omega)
      have hpre : ∀ y ∈ l.take n, y.ok := fun y hy => h y (List.mem_of_mem_take hy)
      have hx := h _ (List.getElem_mem (show n < l.length by omega))
      have hs := seqW_bounds _ hpre
      have hx3 := hx.2.2
      rw [List.take_succ_eq_append_getElem (by omega), itemsW_snoc, seqW_snoc]
      have hseq : (itW (l.take n) l[n]).seq = seqW (l.take n) + (1 + l[n].gap % 4) := rfl
      refine ⟨mayI_snoc i1 (fun y hy => ?_) ?_ (itW_ok hpre hx (by simp; omega)), fun y hy => ?_⟩
      · have := i2 y hy; omega
      · omega
      · rcases List.mem_append.1 hy with hy | hy
        · have := i2 y hy; omega
        · simp only [List.mem_singleton] at hy; subst hy; omega
  have := key l.length (Nat.le_refl _)
  rwa [List.take_length] at this
/-- The keys are two bytes, the second one below 5. -/
theorem itemsW_key (l : List Wr) (h : ∀ x ∈ l, x.ok) : ∀ y ∈ itemsW l, ∃ c : Nat, y.key = [107, c] ∧ c < 5 := by
  intro y hy
  unfold itemsW at hy
  obtain ⟨i, hi, rfl⟩ := List.mem_map.1 hy
  refine ⟨_, rfl, ?_⟩
  omega
theorem row63 : RowT 63 79 4 48 := ⟨Try.underlying63, by kernel_rfl⟩
/-- A key of the call's own. -/
def KeyO (w : World) (x : Im) : Prop := ∃ kb, x.ka = some ⟨kb, 0, none⟩ ∧ x.kc = x.it.key.length ∧ hp w kb = some (.cells (byC x.it.key).toArray 5 (0, 0))
theorem KeyO.bs {w : World} {x : Im} (h : KeyO w x) : Bs w x.kv x.it.key := by
  obtain ⟨kb, h1, h2, h3⟩ := h
  refine ⟨kb, 0, x.it.key.length, by unfold Im.kv; rw [h1, h2], Nat.le_refl _, ?_⟩
  have := At.of h3
  simpa using this
theorem KeyO.bel {w w' : World} {x : Im} (h : KeyO w x) (k : Bel w w') : KeyO w' x := let ⟨kb, h1, h2, h3⟩ := h; ⟨kb, h1, h2, bg k h3⟩
theorem KeyO.grown {w w' : World} {x : Im} (h : KeyO w x) {α : Type} {B E k : Nat} {enc : α → List Value} {v : Value} {l : List α} (ho : Own w B E k enc v l) (hg : w.grownBy w' v.ownBlock) (hE : E ≠ 5) : KeyO w' x := by
  obtain ⟨kb, h1, h2, h3⟩ := h
  exact ⟨kb, h1, h2, grown_hp hg h3 (ho.ne h3 (by intro cur e; injection e with _ e; exact hE e.symm))⟩
/-- law25.items. -/
theorem s20 {w : World} {v : Value} {l : List Wr} (h : Rd w 4 encWr v l) (hl : ∀ x ∈ l, x.ok) {R : Value → World → Prop}
    (hR : ∀ w' v' ims, Bel w w' → Items w' v' ims → ims.map Im.it = itemsW (l.take 60) → R (.tuple #[v', .int .u64 (seqW (l.take 60))]) w') : F20 v w R := by
  obtain ⟨a, c, rfl⟩ := h.form
  unfold F20
  simp
  refine ⟨fun s u => ∃ (v' : Value) (i : Nat) (ims : List Im), s = [v', .int .u64 (seqW (l.take i)), .int .i64 (i : Nat)] ∧ i ≤ 60 ∧ i ≤ l.length ∧ Bel w u ∧ Own u w.heap.size 79 4 encIm v' ims ∧ ims.map Im.it = itemsW (l.take i) ∧ ∀ x ∈ ims, KeyO u x, fun s _ => (61 - n0 s 2).toNat, ⟨_, 0, [], rfl, by omega, by omega, br w, Own.nil _ _ _ _ _, rfl, fun x hx => by simp at hx⟩, ?_⟩
  rintro s u ⟨v', i, ims, rfl, hi, hil, hu, ho, hims, hk⟩
  have fin : ∀ u', Bel u u' → l.take i = l.take 60 → R (.tuple #[v', .int .u64 (seqW (l.take i))]) u' := by
    intro u' hu' he
    rw [he] at hims ⊢
    refine hR u' v' ims (bt hu hu') ⟨(ho.rd encIm_ok).bel hu', fun x hx _ => ((hk x hx).bel hu').bs, fun x hx c hc => ?_⟩ hims
    have hx2 : x.it ∈ itemsW (l.take 60) := by rw [← hims]; exact List.mem_map.2 ⟨x, hx, rfl⟩
    obtain ⟨d, hd, hd5⟩ := itemsW_key _ (fun y hy => hl y (List.mem_of_mem_take hy)) _ hx2
    rw [hd] at hc
    simp at hc
    omega
  simp
  refine ifD (fun h1 => ?_) (fun h1 => ?_)
  · obtain ⟨b, o, c2, ⟨off, ho', hsl⟩, hat⟩ := (h.bel hu).at (List.getElem?_eq_getElem h1)
    injection hsl with hsl _ _
    subst hsl
    have hx := hl _ (List.getElem_mem h1)
    have htk : l.take (i + 1) = l.take i ++ [l[i]] := by rw [List.take_succ_eq_append_getElem h1]
    rw [idxR (T := 61) (k := 4) (by kernel_rfl) h1, ← ho']
    generalize l[i] = x at hat hx htk
    obtain ⟨key, gone, more, gap⟩ := x
    obtain ⟨x1, x2, x3⟩ := hx
    dsimp only at x1 x2 x3
    have hpre := seqW_bounds (l.take i) fun y hy => hl y (List.mem_of_mem_take hy)
    have hlt : (l.take i).length = i := by simp; omega
    rw [hlt] at hpre
    simp [hat.cells0, encWr]
    have hb1 := bx' u [.cells #[.int .u8 key, .bool gone, .int .u16 more, .int .u8 gap] 146]
    refine ifD (fun h2 => ?_) (fun h2 => ?_)
    · obtain rfl : i = 60 := by omega
      exact fin _ hb1 rfl
    · have t4 : gap.tmod 4 = gap % 4 := Int.tmod_eq_emod_of_nonneg x3.1
      have t5 : key.tmod 5 = ((key % 5).toNat : Nat) := by rw [Int.tmod_eq_emod_of_nonneg x1.1]; omega
      have t9 : more.tmod 1089 = more % 1089 := Int.tmod_eq_emod_of_nonneg x2.1
      have k5 : (key % 5).toNat < 5 := by omega
      generalize hkk : (key % 5).toNat = kk at t5 k5
      refine (pure_rem _ _ _ _ _ _ (by decide)).2 ?_
      rw [t4]
      have e4 : (seqW (l.take i) + (1 + gap % 4)) % 18446744073709551616 = seqW (l.take i) + (1 + gap % 4) := by omega
      simp [e4]
      refine (pure_rem _ _ _ _ _ _ (by decide)).2 ?_
      rw [t5]
      simp
      refine (pure_rem _ _ _ _ _ _ (by decide)).2 ?_
      rw [t9]
      have e9 : IntKind.i64.wrap (25 + IntKind.i64.wrap (more % 1089)) = 25 + more % 1089 := by rw [wrap_i64 (n := more % 1089) (by omega) (by omega), wrap_i64 (by omega) (by omega)]
      simp [e9]
      refine join_of fun J hJ => ?_
      have e6 : IntKind.i64.wrap ((i : Int) + 1) = ((i + 1 : Nat) : Int) := i64_succ (by omega)
      have key2 : ∀ kd : Int, kd = (if gone = true then 2 else 1) → J [] (ext u [.cells #[.int .u8 key, .bool gone, .int .u16 more, .int .u8 gap] 146, .cells #[.int .u8 107, .int .u8 (kk : Int)] 5, .cells #[.slice (some ⟨u.heap.size + 1, 0, none⟩) 2 2, .int .u64 (seqW (l.take i) + (1 + gap % 4)), .int .i64 kd, .int .i64 (25 + more % 1089)] 79]) := by
        intro kd hkd
        refine hJ _ _ ?_
        have hb3 := bx' u [.cells #[.int .u8 key, .bool gone, .int .u16 more, .int .u8 gap] 146, .cells #[.int .u8 107, .int .u8 (kk : Int)] 5, .cells #[.slice (some ⟨u.heap.size + 1, 0, none⟩) 2 2, .int .u64 (seqW (l.take i) + (1 + gap % 4)), .int .i64 kd, .int .i64 (25 + more % 1089)] 79]
        have g1 := hp_ext_at (w := u) (L := [.cells #[.int .u8 key, .bool gone, .int .u16 more, .int .u8 gap] 146, .cells #[.int .u8 107, .int .u8 (kk : Int)] 5, .cells #[.slice (some ⟨u.heap.size + 1, 0, none⟩) 2 2, .int .u64 (seqW (l.take i) + (1 + gap % 4)), .int .i64 kd, .int .i64 (25 + more % 1089)] 79]) (i := 1) rfl
        have g2 := hp_ext_at (w := u) (L := [.cells #[.int .u8 key, .bool gone, .int .u16 more, .int .u8 gap] 146, .cells #[.int .u8 107, .int .u8 (kk : Int)] 5, .cells #[.slice (some ⟨u.heap.size + 1, 0, none⟩) 2 2, .int .u64 (seqW (l.take i) + (1 + gap % 4)), .int .i64 kd, .int .i64 (25 + more % 1089)] 79]) (i := 2) rfl
        generalize ext u [.cells #[.int .u8 key, .bool gone, .int .u16 more, .int .u8 gap] 146, .cells #[.int .u8 107, .int .u8 (kk : Int)] 5, .cells #[.slice (some ⟨u.heap.size + 1, 0, none⟩) 2 2, .int .u64 (seqW (l.take i) + (1 + gap % 4)), .int .i64 kd, .int .i64 (25 + more % 1089)] 79] = y at hb3 g1 g2 ⊢
        generalize u.heap.size + 1 = kb at g1 g2 ⊢
        simp [g2]
        have hb4 := bx' y [.cells #[.slice (some ⟨kb, 0, none⟩) 2 2, .int .u64 (seqW (l.take i) + (1 + gap % 4)), .int .i64 kd, .int .i64 (25 + more % 1089)] 79]
        have g3 := hp_new y (.cells #[.slice (some ⟨kb, 0, none⟩) 2 2, .int .u64 (seqW (l.take i) + (1 + gap % 4)), .int .i64 kd, .int .i64 (25 + more % 1089)] 79)
        have hu4 := bt hu (bt hb3 hb4)
        have ho4 := ho.bel (bt hb3 hb4)
        have hk4 : ∀ x ∈ ims, KeyO _ x := fun x hx => (hk x hx).bel (bt hb3 hb4)
        have g1 := bg hb4 g1
        generalize ext y [.cells #[.slice (some ⟨kb, 0, none⟩) 2 2, .int .u64 (seqW (l.take i) + (1 + gap % 4)), .int .i64 kd, .int .i64 (25 + more % 1089)] 79] = y4 at g1 g3 hu4 ho4 hk4 ⊢
        have hlen : ims.length = i := by
          have := congrArg List.length hims
          rw [List.length_map, itemsW_length, hlt] at this
          exact this
        have hkey : KeyO y4 ⟨some ⟨kb, 0, none⟩, 2, itW (l.take i) ⟨key, gone, more, gap⟩⟩ := ⟨kb, rfl, rfl, by rw [g1]; simp [itW, byC, hkk]⟩
        refine app row63 encIm_ok ho4 (x := ⟨some ⟨kb, 0, none⟩, 2, itW (l.take i) ⟨key, gone, more, gap⟩⟩) g3 (by simp [encIm, itW, hkd]) (by omega) (by simp only [maxLen]; omega) hu4.size fun v2 y5 ho5 hg5 hv5 => ?_
        rw [e6]
        refine ⟨⟨v2, i + 1, ⟨rfl, by rw [htk, seqW_snoc], rfl⟩, by omega, h1, grown_bel hg5 hu4 fun g hg => (ho4.ge hg).1, _, ho5, ?_, ?_⟩, by simp [n0]; omega⟩
        · rw [htk, itemsW_snoc, List.map_append, hims]; rfl
        · intro x hx
          rcases List.mem_append.1 hx with hx | hx
          · exact (hk4 x hx).grown ho4 hg5 (by decide)
          · simp only [List.mem_singleton] at hx
            subst hx
            exact hkey.grown ho4 hg5 (by decide)
      refine ifB (fun h3 => key2 2 (by rw [if_pos h3])) (fun h3 => key2 1 (by rw [h3]; rfl))
  · refine fin u (br u) ?_
    rw [List.take_of_length_le (by omega), List.take_of_length_le (by omega)]
end Go.Proofs.Ytbcmoikpmmjlkaa
