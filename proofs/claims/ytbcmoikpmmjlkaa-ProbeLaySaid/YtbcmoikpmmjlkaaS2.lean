/- Seen: what There, Seen and Kept compute; what law 20's knows answers. -/
import Derived.Test.YtbcmoikpmmjlkaaS
import Derived.Laws.OwnMore
namespace Go.Proofs.Ytbcmoikpmmjlkaa
open Go Eng
set_option maxRecDepth 100000
def encU (n : Int) : List Value := [.int .u64 n]
theorem encU_ok : Enc 1 encU := ⟨fun _ => rfl, fun x u hu => by simp [encU] at hu; subst hu; rfl, by decide⟩
/-- seen.There, of versions that may be. -/
theorem s57 {w : World} {v : Value} {l : List Vr} (h : Rd w 2 encV v l) (hl : l.length ≤ 1000000) (hm : mayFrom 0 l = true) {s : Int} {R : Value → World → Prop}
    (hR : ∀ w', Bel w w' → R (.bool (match (l.filter fun v => decide (v.seq ≤ s)).getLast? with | some x => decide (x.kind = 1) | none => false)) w') : F57 v (.int .u64 s) w R := by
  unfold F57
  refine c18 (s18 h hl hm fun w1 b1 => ?_)
  simp
  obtain ⟨a, c, rfl⟩ := h.form
  have hb := bh_le l s
  have hlast : 0 < bh l s → ∀ x, l[bh l s - 1]? = some x → (l.filter fun v => decide (v.seq ≤ s)).getLast? = some x := by
    intro h0 x hx
    have key : ∀ (l : List Vr) (last : Int), mayFrom last l = true → l.filter (fun v => decide (v.seq ≤ s)) = l.take (bh l s) := by
      intro l
      induction l with
      | nil => intro _ _; rfl
      | cons v l ih =>
        intro last hm
        obtain ⟨h1, _, _, h2⟩ := mayFrom_cons hm
        have ih := ih _ h2
        unfold bh at ih ⊢
        by_cases hv : v.seq ≤ s
        · rw [List.filter_cons_of_pos (by simpa using hv), List.length_cons, List.take_succ_cons, ← ih]
        · rw [List.filter_cons_of_neg (by simpa using hv)]
          have h0 : l.filter (fun v => decide (v.seq ≤ s)) = [] := List.filter_eq_nil_iff.2 fun y hy => by
            have := mayFrom_gt h2 y hy
            simp; omega
          rw [h0]; rfl
    rw [key l 0 hm, List.getLast?_eq_getElem?, List.length_take, List.getElem?_take]
    rw [if_pos (by omega), show min (bh l s) l.length - 1 = bh l s - 1 by omega]
    exact hx
  refine ifD (fun h1 => ?_) (fun h1 => ?_)
  · have hlt : bh l s - 1 < l.length := by omega
    have hxx := hlast h1 _ (List.getElem?_eq_getElem hlt)
    obtain ⟨b, o, c2, ⟨off, ho, hsl⟩, hat⟩ := (h.bel b1).at (List.getElem?_eq_getElem hlt)
    injection hsl with hsl _ _
    subst hsl
    generalize l[bh l s - 1] = x at hat hxx
    have e1 : ((bh l s : Int) - 1) = ((bh l s - 1 : Nat) : Int) := by omega
    rw [hxx] at hR
    rw [idxR (T := 53) (k := 2) (by kernel_rfl) hlt, ← ho]
    simp [hat.cell, encV]
    exact hR _ b1
  · have h0 : (l.filter fun v => decide (v.seq ≤ s)) = [] := List.eq_nil_of_length_eq_zero (by unfold bh at h1; omega)
    rw [h0] at hR
    exact hR _ b1

/-! ### Bools -/
/-- A row of bools of the call's own. -/
def Bl (w : World) (g : Nat) (bs : List Bool) : Prop := hp w g = some (.cells (bs.map Value.bool).toArray 4 (0, 0))
theorem Bl.get {w : World} {g : Nat} {bs : List Bool} (h : Bl w g bs) {i : Nat} (hi : i < bs.length) : loadW Pg 4 (.pointer (some ⟨g, i, none⟩)) w = some (.bool bs[i]) := by
  have h' : hp w g = some (.cells (bs.map Value.bool).toArray 4) := h
  simp [h', hi]
theorem Bl.set {w : World} {g : Nat} {bs : List Bool} (h : Bl w g bs) {i : Nat} (hi : i < bs.length) (b : Bool) {K : World → Prop} :
    getU (storeW Pg 4 (.pointer (some ⟨g, i, none⟩)) (.bool b) w) K ↔ K (upd w g (.cells ((bs.set i b).map Value.bool).toArray 4)) := by
  have h' : hp w g = some (.cells (bs.map Value.bool).toArray 4) := h
  simp [h', hi, List.map_set]
  rw [if_pos (by omega)]
  simp
theorem Bl.upd {w : World} {g : Nat} {bs : List Bool} (h : Bl w g bs) (bs' : List Bool) : Bl (upd w g (.cells (bs'.map Value.bool).toArray 4)) g bs' := by
  have h' : hp w g = some (.cells (bs.map Value.bool).toArray 4) := h
  simp [Bl, h']
theorem mkB {w : World} {n : Nat} (hn : n ≤ 1000000) {K : Value → World → Prop} (hK : K (.slice (some ⟨w.heap.size, 0, none⟩) n n) (ext w [.cells ((List.replicate n false).map Value.bool).toArray 4])) :
    S Pg (Instr.makeSlice 142 (.int .i64 (n : Nat)) (.int .i64 (n : Nat))) w K := by
  have hinfo : (Pg.info? 4).map (fun i => (i.size, i.bytes, i.zero)) = some (1, 1, some (.bool false)) := by kernel_rfl
  obtain ⟨i, hi, he⟩ := Option.map_eq_some_iff.1 hinfo
  injection he with e1 he
  injection he with e2 e3
  have := run_makeSlice (P := Pg) w 142 4 i (.bool false) Try.underlying142 hi e3 .i64 .i64 (n : Nat) (n : Nat) (by omega) (by omega) (by rw [e1]; omega) (by rw [e2]; omega) (by omega)
  refine (S_of this).2 ?_
  rw [e1, Int.toNat_natCast, Nat.mul_one]
  have hc : madeCells (Value.bool false).cells n = ((List.replicate n false).map Value.bool).toArray := by
    apply Array.ext'
    show (madeCells #[.bool false] n).toList = _
    rw [toList_madeCells_one]
    simp
  rw [hc, ← ext_one]
  exact hK

/-! ### seen.places -/
/-- What places yields. -/
def placesOf (l : List Vr) (at_ : List Int) : List Nat := (at_.filter fun s => decide (0 < bh l s)).map fun s => bh l s - 1
theorem placesOf_snoc (l : List Vr) (at_ : List Int) (s : Int) : placesOf l (at_ ++ [s]) = if 0 < bh l s then placesOf l at_ ++ [bh l s - 1] else placesOf l at_ := by
  unfold placesOf
  rw [List.filter_append]
  by_cases h : 0 < bh l s <;> simp [h]
theorem it87 {tb1 tb2 : Nat} {av lv : Value} {l : List Vr} {at_ : List Int} (hl : l.length ≤ 1000000) (hl2 : at_.length ≤ 1000000) (hm : mayFrom 0 l = true) :
    IterC Pg 87 #[.pointer (some ⟨tb1, 0, none⟩), .pointer (some ⟨tb2, 0, none⟩)] (fun w => hp w tb1 = some (.cells #[av] 66) ∧ hp w tb2 = some (.cells #[lv] 53) ∧ Rd w 1 encU av at_ ∧ Rd w 2 encV lv l) ((placesOf l at_).map fun (k : Nat) => [.int .i64 (k : Nat)]) := by
  intro lp J W hM hS hY h0
  show Calls Pg 87 #[.func (.yield lp) #[] #[], .pointer (some ⟨tb1, 0, none⟩), .pointer (some ⟨tb2, 0, none⟩)] W _
  refine f87 ?_
  unfold F87
  obtain ⟨m1, m2, m3, m4⟩ := hM 0 W h0
  obtain ⟨aa, ac, rfl⟩ := m3.form
  obtain ⟨la, lc, rfl⟩ := m4.form
  simp [m1]
  refine ⟨fun s w => ∃ i : Nat, s = [.int .i64 (i : Nat)] ∧ i ≤ at_.length ∧ J (placesOf l (at_.take i)).length w ∧ W.heap.size ≤ w.heap.size, fun s _ => ((at_.length + 1 : Nat) - n0 s 0).toNat, ⟨0, rfl, by omega, h0, Nat.le_refl _⟩, ?_⟩
  rintro s w ⟨i, rfl, hi, hJ, hsz⟩
  obtain ⟨m1, m2, m3, m4⟩ := hM _ w hJ
  simp
  refine ifD (fun h1 => ?_) (fun h1 => ?_)
  · obtain ⟨b, o, c2, ⟨off, ho, hsl⟩, hat⟩ := m3.at (List.getElem?_eq_getElem h1)
    injection hsl with hsl _ _
    subst hsl
    have htk : at_.take (i + 1) = at_.take i ++ [at_[i]] := by rw [List.take_succ_eq_append_getElem h1]
    have hpre : ∃ r, placesOf l at_ = placesOf l (at_.take (i + 1)) ++ r := ⟨placesOf l (at_.drop (i + 1)), by
      unfold placesOf
      rw [← List.map_append, ← List.filter_append, List.take_append_drop]⟩
    rw [htk, placesOf_snoc] at hpre
    have hlen : (placesOf l (at_.take (i + 1))).length = if 0 < bh l at_[i] then (placesOf l (at_.take i)).length + 1 else (placesOf l (at_.take i)).length := by
      rw [htk, placesOf_snoc]; split <;> simp
    rw [idxR (T := 66) (k := 1) (by kernel_rfl) h1, ← ho]
    generalize at_[i] = x at hat hpre hlen
    simp [hat.cell0, encU, m2]
    have e6 : IntKind.i64.wrap ((i : Int) + 1) = ((i + 1 : Nat) : Int) := wrap_i64 (by omega) (by omega)
    refine c54 (s54 m4 hl hm fun w1 b1 => ?_)
    have hJ1 := hS _ _ _ hJ (b1.mono hsz)
    have hsz1 := b1.size
    have hbl := bh_le l x
    simp
    refine ifD (fun h2 => ?_) (fun h2 => ?_)
    · rw [if_pos h2] at hpre hlen
      obtain ⟨r, hr⟩ := hpre
      have hx : ((placesOf l at_).map fun (k : Nat) => [Value.int .i64 (k : Nat)])[(placesOf l (at_.take i)).length]? = some [.int .i64 ((bh l x - 1 : Nat) : Int)] := by
        rw [hr]; simp
      have e7 : IntKind.i64.wrap ((bh l x : Int) - 1) = ((bh l x - 1 : Nat) : Int) := by rw [wrap_i64 (by omega) (by omega)]; omega
      rw [e7, e6]
      have hy := hY _ _ w1 hx hJ1 (by omega)
      refine (yield_of (YieldC.mono hy ?_) : callV Pg true (.func (.yield lp) #[] #[]) [.int .i64 ((bh l x - 1 : Nat) : Int)].toArray w1 _)
      rintro v w2 ⟨rfl, h3, h4⟩
      simp
      refine ⟨⟨i + 1, by omega, by omega, by rw [hlen]; exact h3, by have := h4.1; omega⟩, ?_⟩
      simp [n0]
      omega
    · rw [if_neg h2] at hlen
      rw [e6]
      refine ⟨⟨i + 1, rfl, by omega, by rw [hlen]; exact hJ1, by omega⟩, ?_⟩
      simp [n0]
      omega
  · have : i = at_.length := by omega
    rw [this, List.take_length] at hJ
    simpa using hJ

/-- Which are seen at some numbers. -/
def seenL (l : List Vr) (at_ : List Int) : List Bool := (List.range l.length).map fun k => at_.any fun s => decide (bh l s = k + 1)
/-- Which places are marked. -/
def markL (n : Nat) (ps : List Nat) : List Bool := (List.range n).map fun k => decide (k ∈ ps)
theorem markL_length (n : Nat) (ps : List Nat) : (markL n ps).length = n := by simp [markL]
theorem markL_snoc {n : Nat} {ps : List Nat} {p : Nat} : markL n (ps ++ [p]) = (markL n ps).set p true := by
  apply List.ext_getElem?
  intro j
  unfold markL
  rw [List.getElem?_set]
  simp only [List.getElem?_map, List.length_map, List.length_range, List.mem_append, List.mem_singleton]
  by_cases hj : j < n
  · rw [List.getElem?_range hj]
    by_cases hp : p = j
    · subst hp; simp [hj]
    · rw [if_neg hp]; simp [Ne.symm hp]
  · have : (List.range n)[j]? = none := by simp; omega
    rw [this]
    by_cases hp : p = j
    · subst hp; simp [hj]
    · rw [if_neg hp]; rfl
theorem markL_places (l : List Vr) (at_ : List Int) : markL l.length (placesOf l at_) = seenL l at_ := by
  unfold markL seenL placesOf
  apply List.map_congr_left
  intro k _
  rw [Bool.eq_iff_iff, decide_eq_true_eq, List.any_eq_true, List.mem_map]
  constructor
  · rintro ⟨s, hs, he⟩
    have hs := List.mem_filter.1 hs
    have h2 := of_decide_eq_true hs.2
    exact ⟨s, hs.1, decide_eq_true (by omega)⟩
  · rintro ⟨s, hs, he⟩
    have he := of_decide_eq_true he
    exact ⟨s, List.mem_filter.2 ⟨hs, decide_eq_true (by omega)⟩, by omega⟩
theorem seenL_length (l : List Vr) (at_ : List Int) : (seenL l at_).length = l.length := by simp [seenL]
theorem placesOf_lt {l : List Vr} {at_ : List Int} {k : Nat} (h : k ∈ placesOf l at_) : k < l.length := by
  unfold placesOf at h
  obtain ⟨s, hs, rfl⟩ := List.mem_map.1 h
  have hs := of_decide_eq_true (List.mem_filter.1 hs).2
  have := bh_le l s
  omega
/-- seen.Seen. -/
theorem s78 {w : World} {v av : Value} {l : List Vr} {at_ : List Int} (h : Rd w 2 encV v l) (ha : Rd w 1 encU av at_) (hl : l.length ≤ 1000000) (hl2 : at_.length ≤ 1000000) (hm : mayFrom 0 l = true) {R : Value → World → Prop}
    (hR : ∀ w' g, Bel w w' → w.heap.size ≤ g → Bl w' g (seenL l at_) → R (.slice (some ⟨g, 0, none⟩) l.length l.length) w') : F78 v av w R := by
  unfold F78
  refine c53 (s53 h hl fun w1 b1 => ?_)
  rw [hm]
  have h1 := h.bel b1
  have ha1 := ha.bel b1
  obtain ⟨lv, lc, rfl⟩ := h.form
  simp
  refine mkB hl ?_
  simp
  have hb0 := bt b1 (bx' w1 [.cells (Array.replicate l.length (.bool false)) 4, .cells #[.slice (some ⟨w1.heap.size, 0, none⟩) l.length l.length] 142])
  have g0 : Bl (ext w1 [.cells (Array.replicate l.length (.bool false)) 4, .cells #[.slice (some ⟨w1.heap.size, 0, none⟩) l.length l.length] 142]) w1.heap.size (List.replicate l.length false) := by simp [Bl]
  have g1 : hp (ext w1 [.cells (Array.replicate l.length (.bool false)) 4, .cells #[.slice (some ⟨w1.heap.size, 0, none⟩) l.length l.length] 142]) (w1.heap.size + 1) = some (.cells #[.slice (some ⟨w1.heap.size, 0, none⟩) l.length l.length] 142) := by simp
  have hs0 := b1.size
  generalize w1.heap.size = gb at hb0 g0 g1 hs0 ⊢
  have hmem := h.bel hb0
  have ham := ha.bel hb0
  generalize ext w1 [.cells (Array.replicate l.length (.bool false)) 4, .cells #[.slice (some ⟨gb, 0, none⟩) l.length l.length] 142] = u at hb0 g0 g1 hmem ham ⊢
  refine c85 ?_
  unfold F85
  simp
  have hx := bx' u [.cells #[.slice lv l.length lc] 53, .cells av.cells 66]
  obtain ⟨aa, ac, rfl⟩ := ha.form
  simp
  have k1 : hp (ext u [.cells #[.slice lv l.length lc] 53, .cells #[.slice aa at_.length ac] 66]) (u.heap.size + 1) = some (.cells #[.slice aa at_.length ac] 66) := by simp
  have k2 : hp (ext u [.cells #[.slice lv l.length lc] 53, .cells #[.slice aa at_.length ac] 66]) u.heap.size = some (.cells #[.slice lv l.length lc] 53) := by simp
  have hszx : (ext u [.cells #[.slice lv l.length lc] 53, .cells #[.slice aa at_.length ac] 66]).heap.size = u.heap.size + 2 := by simp
  have hx : Bel u (ext u [.cells #[.slice lv l.length lc] 53, .cells #[.slice aa at_.length ac] 66]) := bx' _ _
  have g0 : Bl (ext u [.cells #[.slice lv l.length lc] 53, .cells #[.slice aa at_.length ac] 66]) gb (List.replicate l.length false) := bg hx g0
  have g1 := bg hx g1
  have hb1 := bt hb0 hx
  have hgl := hp_lt g1
  have hul := hb0.size
  generalize ext u [.cells #[.slice lv l.length lc] 53, .cells #[.slice aa at_.length ac] 66] = x at k1 k2 hszx g0 g1 hb1 hgl ⊢
  have hul2 : gb + 1 < u.heap.size := by
    rcases Nat.lt_or_ge (gb + 1) u.heap.size with h | h
    · exact h
    · exfalso
      have : gb + 1 = u.heap.size ∨ gb + 1 = u.heap.size + 1 := by omega
      rcases this with e | e
      · rw [e, k2] at g1; injection g1 with g1; injection g1 with _ g1; cases g1
      · rw [e, k1] at g1; injection g1 with g1; injection g1 with _ g1; cases g1
  refine ⟨87, #[.pointer (some ⟨u.heap.size + 1, 0, none⟩), .pointer (some ⟨u.heap.size, 0, none⟩)], _, fun i W => Bel w W ∧ x.heap.size ≤ W.heap.size ∧ Bl W gb (markL l.length ((placesOf l at_).take i)) ∧ hp W (gb + 1) = some (.cells #[.slice (some ⟨gb, 0, none⟩) l.length l.length] 142) ∧ hp W (u.heap.size + 1) = some (.cells #[.slice aa at_.length ac] 66) ∧ hp W u.heap.size = some (.cells #[.slice lv l.length lc] 53),
    (placesOf l at_).map fun (k : Nat) => [.int .i64 (k : Nat)], rfl, ?_, it87 (tb1 := u.heap.size + 1) (tb2 := u.heap.size) (av := .slice aa at_.length ac) (lv := .slice lv l.length lc) hl hl2 hm, ?_, ?_, ?_, ?_, ?_, ?_⟩
  · exact callFunc_enters Try.func87 (by kernel_rfl) (by kernel_rfl)
  · intro y hy
    obtain ⟨i, _, rfl⟩ := List.mem_map.1 hy
    rfl
  · rintro i W ⟨hB, _, _, _, e1, e2⟩
    exact ⟨e1, e2, ha.bel hB, h.bel hB⟩
  · refine ⟨hb1, Nat.le_refl _, ?_, g1, k1, k2⟩
    have : markL l.length ((placesOf l at_).take 0) = List.replicate l.length false := by
      simp [markL, List.map_const']
    rw [this]; exact g0
  · rintro i W W' ⟨hB, h4, e0, e1, e2, e3⟩ hS
    refine ⟨hB.trans (hS.mono (by omega)), Nat.le_trans h4 hS.size, ?_, ?_, ?_, ?_⟩
    · exact (hS.block _ (by omega)).trans e0
    · rw [← e1]; exact hS.block _ (by omega)
    · rw [← e2]; exact hS.block _ (by omega)
    · rw [← e3]; exact hS.block _ (by omega)
  · rintro i y W hy ⟨hB, h4, e0, e1, e2, e3⟩ h5
    rw [List.getElem?_map] at hy
    obtain ⟨p, hp', rfl⟩ := Option.map_eq_some_iff.1 hy
    have hpl := placesOf_lt (List.mem_of_getElem? hp')
    simp [e1]
    have := idxR (T := 142) (k := 1) (by kernel_rfl) (b := gb) (o := 0) (c := l.length) hpl (kk := .i64) (K := fun t19 => getU (storeW Pg 4 t19 (Value.bool true) W) fun w_1 => (Bel w w_1 ∧ x.heap.size ≤ w_1.heap.size ∧ Bl w_1 gb (markL l.length ((placesOf l at_).take (i + 1))) ∧ hp w_1 (gb + 1) = some (.cells #[.slice (some ⟨gb, 0, none⟩) l.length l.length] 142) ∧ hp w_1 (u.heap.size + 1) = some (.cells #[.slice aa at_.length ac] 66) ∧ hp w_1 u.heap.size = some (.cells #[.slice lv l.length lc] 53)) ∧ KeepFrom x.heap.size W w_1)
    rw [this]
    rw [Nat.mul_one, Nat.zero_add, e0.set (by rw [markL_length]; exact hpl)]
    have htk : (placesOf l at_).take (i + 1) = (placesOf l at_).take i ++ [p] := by
      obtain ⟨hi, rfl⟩ := List.getElem?_eq_some_iff.1 hp'
      rw [List.take_succ_eq_append_getElem hi]
    rw [htk, markL_snoc]
    refine ⟨⟨bu hB hs0 _, by simpa using h4, e0.upd _, ?_, ?_, ?_⟩, by simp, fun j hj _ => ?_⟩
    · rw [upd_ne _ _ _ _ (by omega)]; exact e1
    · rw [upd_ne _ _ _ _ (by omega)]; exact e2
    · rw [upd_ne _ _ _ _ (by omega)]; exact e3
    · exact upd_ne _ _ _ _ (by omega)
  · rintro W D ⟨hB, h4, e0, e1, e2, e3⟩ h5 h6 h7
    have h7' : hp W D = some (.deferred (some [])) := h7
    simp [e1]
    refine takeD_of h7' ?_
    rw [List.length_map, List.take_length, markL_places] at e0
    refine hR _ gb (bu hB (by omega) _) hs0 ?_
    exact (upd_ne _ _ _ _ (by omega)).trans e0

/-- What of the seen ones is kept. -/
def keptL : Bool → List Vr → List Bool → List Bool
  | o, v :: l, b :: bs => (b && (o || (b && decide (v.kind = 1)))) :: keptL (o || (b && decide (v.kind = 1))) l bs
  | _, _, _ => []
def olderL : Bool → List Vr → List Bool → Bool
  | o, v :: l, b :: bs => olderL (o || (b && decide (v.kind = 1))) l bs
  | o, _, _ => o
theorem keptL_length : ∀ (o : Bool) (l : List Vr) (bs : List Bool), bs.length = l.length → (keptL o l bs).length = l.length
  | _, [], [], _ => rfl
  | _, [], _ :: _, h => by simp at h
  | _, _ :: _, [], h => by simp at h
  | o, v :: l, b :: bs, h => by simp [keptL]; exact keptL_length _ l bs (by simpa using h)
theorem keptL_snoc : ∀ (o : Bool) (l : List Vr) (bs : List Bool) (v : Vr) (b : Bool), bs.length = l.length → keptL o (l ++ [v]) (bs ++ [b]) = keptL o l bs ++ [b && (olderL o l bs || (b && decide (v.kind = 1)))] ∧ olderL o (l ++ [v]) (bs ++ [b]) = (olderL o l bs || (b && decide (v.kind = 1)))
  | _, [], [], _, _, _ => ⟨rfl, rfl⟩
  | _, [], _ :: _, _, _, h => by simp at h
  | _, _ :: _, [], _, _, h => by simp at h
  | o, v :: l, b :: bs, v', b', h => by
    have := keptL_snoc (o || (b && decide (v.kind = 1))) l bs v' b' (by simpa using h)
    simp only [List.cons_append, keptL, olderL, this.1, this.2]
    exact ⟨trivial, trivial⟩
/-- seen.Kept$1. -/
theorem s79 {w : World} {p : Nat} {o is : Bool} {sq kd : Int} (hp' : hp w p = some (.cells #[.bool o] 4)) {R : Value → World → Prop}
    (hR : ∀ w', Fr (fun b => b = p) w w' → hp w' p = some (.cells #[.bool (o || (is && decide (kd = 1)))] 4) → R (.bool (is && (o || (is && decide (kd = 1))))) w') : F79 (.agg #[.int .u64 sq, .int .i64 kd]) (.bool is) (.pointer (some ⟨p, 0, none⟩)) w R := by
  unfold F79
  have hlt := hp_lt hp'
  refine (newP_some _ _ _ _).2 ?_
  dsimp only [cells_agg]
  have hx : Fr (fun b => b = p) w (ext w [.cells #[.int .u64 sq, .int .i64 kd] 55]) := (Fr.refl _ _).ext _
  have g0 : hp (ext w [.cells #[.int .u64 sq, .int .i64 kd] 55]) p = some (.cells #[.bool o] 4) := by simp [hp']
  have g1 : hp (ext w [.cells #[.int .u64 sq, .int .i64 kd] 55]) w.heap.size = some (.cells #[.int .u64 sq, .int .i64 kd] 55) := by simp
  generalize ext w [.cells #[.int .u64 sq, .int .i64 kd] 55] = u at hx g0 g1 ⊢
  have hfin : ∀ b, Fr (fun b => b = p) w (upd u p (.cells #[.bool b] 4)) ∧ hp (upd u p (.cells #[.bool b] 4)) p = some (.cells #[.bool b] 4) := fun b => ⟨hx.upd (.inl rfl) _, by simp [g0]⟩
  simp [g0]
  cases o <;> cases is <;> simp [g0, g1] <;> simp at hR
  · exact hR _ (hfin _).1 (hfin _).2
  · exact hR _ (hfin _).1 (hfin _).2
  · exact hR _ (hfin _).1 (hfin _).2
  · exact hR _ (hfin _).1 (hfin _).2
/-- seen.Kept. -/
theorem s56 {w : World} {v av : Value} {l : List Vr} {at_ : List Int} (h : Rd w 2 encV v l) (ha : Rd w 1 encU av at_) (hl : l.length ≤ 1000000) (hl2 : at_.length ≤ 1000000) (hm : mayFrom 0 l = true) {R : Value → World → Prop}
    (hR : ∀ w' g, Bel w w' → w.heap.size ≤ g → Bl w' g (keptL false l (seenL l at_)) → R (.slice (some ⟨g, 0, none⟩) l.length l.length) w') : F56 v av w R := by
  unfold F56
  refine c78 (s78 h ha hl hl2 hm fun w1 g b1 hg hbl => ?_)
  have h1 := h.bel b1
  obtain ⟨lv, lc, rfl⟩ := h.form
  simp
  have hx := bx' w1 [.cells #[.bool false] 4]
  have b2 := bt b1 hx
  have g0 : Bl (ext w1 [.cells #[.bool false] 4]) g (seenL l at_) := bg hx hbl
  have g1 : hp (ext w1 [.cells #[.bool false] 4]) w1.heap.size = some (.cells #[.bool false] 4) := by simp
  have hgl := hp_lt hbl
  have hsz := b1.size
  generalize hp'' : w1.heap.size = p at hgl hsz g1 ⊢
  have hszx : (ext w1 [.cells #[.bool false] 4]).heap.size = p + 1 := by simp [hp'']
  generalize ext w1 [.cells #[.bool false] 4] = u at b2 g0 g1 hszx ⊢
  have hlen := seenL_length l at_
  refine ⟨fun s x => ∃ i : Nat, s = [.int .i64 (i : Nat)] ∧ i ≤ l.length ∧ Bel w x ∧ p < x.heap.size ∧ Bl x g (keptL false (l.take i) ((seenL l at_).take i) ++ (seenL l at_).drop i) ∧ hp x p = some (.cells #[.bool (olderL false (l.take i) ((seenL l at_).take i))] 4), fun s _ => (l.length + 1 - n0 s 0).toNat, ⟨0, rfl, by omega, b2, by omega, g0, g1⟩, ?_⟩
  rintro s x ⟨i, rfl, hi, hx, hpx, hb, ho⟩
  simp
  have hkl : (keptL false (l.take i) ((seenL l at_).take i)).length = i := by
    rw [keptL_length _ _ _ (by simp [hlen])]; simp; omega
  refine ifD (fun h3 => ?_) (fun h3 => ?_)
  · obtain ⟨b, o, c2, ⟨off, ho', hsl⟩, hat⟩ := h.at (List.getElem?_eq_getElem h3)
    injection hsl with hsl _ _
    subst hsl
    have htl : l.take (i + 1) = l.take i ++ [l[i]] := by rw [List.take_succ_eq_append_getElem h3]
    have hts : (seenL l at_).take (i + 1) = (seenL l at_).take i ++ [(seenL l at_)[i]'(by omega)] := by rw [List.take_succ_eq_append_getElem]
    have hsn := keptL_snoc false (l.take i) ((seenL l at_).take i) l[i] ((seenL l at_)[i]'(by omega)) (by simp [hlen])
    rw [← htl, ← hts] at hsn
    have hds : (seenL l at_).drop i = (seenL l at_)[i]'(by omega) :: (seenL l at_).drop (i + 1) := List.drop_eq_getElem_cons (by omega)
    rw [hds] at hb
    generalize l[i] = y at hat hsn
    generalize (seenL l at_)[i]'(by omega) = is at hsn hb
    have hgeti : ∀ a, Bel x a → loadW Pg 4 (.pointer (some ⟨g, i, none⟩)) a = some (.bool is) := fun a ha => by
      have hb' : Bl a g _ := bg ha hb
      have := hb'.get (i := i) (by simp [hkl])
      rw [this]
      congr 2
      simp [hkl]
    refine drawn' (St0 := Bel x) (bd (br x)) fun St hS => ?_
    rw [idxR (T := 53) (k := 2) (by kernel_rfl) h3, ← ho']
    refine ⟨.agg #[.int .u64 y.seq, .int .i64 y.kind], fun a ha => ?_, ?_⟩
    · have := (hat.bel (bt hx ((hS a).1 ha))).cells0 2 (by decide) (by simp [encV])
      simp only [loadW_ptr, shape_55, ldSh_agg, this]
      rfl
    rw [idxR (T := 142) (k := 1) (by kernel_rfl) h3]
    rw [Nat.mul_one, Nat.zero_add]
    refine ⟨.bool is, fun a ha => hgeti a ((hS a).1 ha), ?_⟩
    have hod : hp x.drew p = some (.cells #[.bool (olderL false (l.take i) ((seenL l at_).take i))] 4) := ho
    refine c79 (s79 hod fun w2 f2 o2 => ?_)
    rw [idxR (T := 142) (k := 1) (by kernel_rfl) h3]
    rw [Nat.mul_one, Nat.zero_add]
    have hb2 : Bl w2 g (keptL false (l.take i) ((seenL l at_).take i) ++ is :: (seenL l at_).drop (i + 1)) := f2.get (show hp x.drew g = _ from hb) (by omega)
    rw [hb2.set (by simp [hkl])]
    rw [i64_succ (by omega)]
    have hset : (keptL false (l.take i) ((seenL l at_).take i) ++ is :: (seenL l at_).drop (i + 1)).set i (is && (olderL false (l.take i) ((seenL l at_).take i) || (is && decide (y.kind = 1)))) = keptL false (l.take (i + 1)) ((seenL l at_).take (i + 1)) ++ (seenL l at_).drop (i + 1) := by
      rw [hsn.1, List.set_append_right _ _ (by omega), hkl, Nat.sub_self]
      simp
    rw [hset]
    refine ⟨⟨i + 1, rfl, h3, ?_, ?_, hb2.upd _, ?_⟩, by simp [n0]; omega⟩
    · refine bu ((Fr.below (F := fun b => b = p) f2 (bd hx) ?_)) hg _
      rintro b rfl; omega
    · have := f2.size; simp at this ⊢; omega
    · rw [upd_ne _ _ _ _ (by omega), o2, hsn.2]
  · have : i = l.length := by omega
    subst this
    rw [List.take_length, List.take_of_length_le (by omega), List.drop_eq_nil_of_le (by omega), List.append_nil] at hb
    exact hR x g hx hg hb
end Go.Proofs.Ytbcmoikpmmjlkaa
