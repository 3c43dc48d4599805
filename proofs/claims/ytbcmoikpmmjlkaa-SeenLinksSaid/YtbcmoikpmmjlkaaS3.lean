/- Law 20: what which, are and knows answer. -/
import Derived.Test.YtbcmoikpmmjlkaaS2
import Derived.Test.YtbcmoikpmmjlkaaR
namespace Go.Proofs.Ytbcmoikpmmjlkaa
open Go Eng
set_option maxRecDepth 100000
def encI (n : Nat) : List Value := [.int .i64 (n : Nat)]
theorem encI_ok : Enc 1 encI := ⟨fun _ => rfl, fun x u hu => by simp [encI] at hu; subst hu; rfl, by decide⟩
theorem row73 : RowT 73 3 1 8 := ⟨Try.underlying73, by kernel_rfl⟩
/-- The places that are true. -/
def whichL (bs : List Bool) : List Nat := (List.range bs.length).filter fun i => bs.getD i false
theorem whichL_take {bs : List Bool} {i : Nat} (h : i < bs.length) : whichL (bs.take (i + 1)) = if bs[i] then whichL (bs.take i) ++ [i] else whichL (bs.take i) := by
  unfold whichL
  have e1 : (bs.take (i + 1)).length = i + 1 := by simp; omega
  have e2 : (bs.take i).length = i := by simp; omega
  rw [e1, e2, List.range_succ, List.filter_append]
  have e3 : ((List.range i).filter fun j => (bs.take (i + 1)).getD j false) = (List.range i).filter fun j => (bs.take i).getD j false := by
    apply List.filter_congr
    intro j hj
    have hj := List.mem_range.1 hj
    simp only [List.getD_eq_getElem?_getD, List.getElem?_take]
    rw [if_pos (by omega), if_pos (by omega)]
  rw [e3]
  have e4 : (bs.take (i + 1)).getD i false = bs[i] := by simp [List.getD_eq_getElem?_getD, h]
  cases hb : bs[i] with
  | true => rw [hb] at e4; simp only [List.filter_cons, e4]; simp
  | false => rw [hb] at e4; simp only [List.filter_cons, e4]; simp
/-- law20.which. -/
theorem s77 {w : World} {g : Nat} {bs : List Bool} (h : Bl w g bs) (hl : bs.length ≤ 1000000) {R : Value → World → Prop}
    (hR : ∀ w' v, Bel w w' → Own w' w.heap.size 3 1 encI v (whichL bs) → R v w') : F77 (.slice (some ⟨g, 0, none⟩) bs.length bs.length) w R := by
  unfold F77
  refine ⟨fun s u => ∃ (v : Value) (i : Nat), s = [v, .int .i64 (i : Nat)] ∧ i ≤ bs.length ∧ Bel w u ∧ Own u w.heap.size 3 1 encI v (whichL (bs.take i)), fun s _ => (bs.length + 1 - n0 s 1).toNat, ⟨_, 0, rfl, by omega, br w, Own.nil _ _ _ _ _⟩, ?_⟩
  rintro s u ⟨v, i, rfl, hi, hu, ho⟩
  simp
  refine ifD (fun h1 => ?_) (fun h1 => ?_)
  · have hb : Bl u g bs := bg hu h
    have hwl : (whichL (bs.take i)).length ≤ i := by
      unfold whichL
      refine Nat.le_trans (List.length_filter_le _ _) ?_
      simp; omega
    have htk := whichL_take h1
    rw [idxR (T := 142) (k := 1) (by kernel_rfl) h1]
    rw [Nat.mul_one, Nat.zero_add, hb.get h1, getO_some]
    have e6 : IntKind.i64.wrap ((i : Int) + 1) = ((i + 1 : Nat) : Int) := i64_succ (by omega)
    refine ifB (fun h2 => ?_) (fun h2 => ?_)
    · rw [h2, if_pos rfl] at htk
      have hx := bx' u [.cells #[.int .i64 (i : Nat)] 3]
      have g1 : hp (ext u [.cells #[.int .i64 (i : Nat)] 3]) u.heap.size = some (.cells #[.int .i64 (i : Nat)] 3) := by simp
      have ho1 := ho.bel hx
      have hu1 := bt hu hx
      refine app row73 encI_ok ho1 (x := i) g1 rfl (by omega) (by simp only [maxLen]; omega) (by have := hu1.size; omega) fun v' w' ho' hg _ => ?_
      rw [← htk] at ho'
      refine ⟨⟨v', i + 1, ⟨rfl, e6⟩, h1, grown_bel hg hu1 fun b hb => (ho1.ge hb).1, ho'⟩, ?_⟩
      rw [e6]; simp [n0]; omega
    · rw [h2] at htk
      refine ⟨⟨v, i + 1, ⟨rfl, e6⟩, h1, hu, by rw [htk]; exact ho⟩, ?_⟩
      rw [e6]; simp [n0]; omega
  · have : i = bs.length := by omega
    rw [this, List.take_length] at ho
    exact hR u v hu ho
/-- law20.are. -/
theorem s55 {w : World} {g : Nat} {bs : List Bool} {v : Value} {want : List Nat} (h : Bl w g bs) (hl : bs.length ≤ 1000000) (hv : Rd w 1 encI v want) {R : Value → World → Prop}
    (hR : ∀ w', Bel w w' → R (.bool (decide (whichL bs = want))) w') : F55 (.slice (some ⟨g, 0, none⟩) bs.length bs.length) v w R := by
  unfold F55
  refine c77 (s77 h hl fun w1 gv b1 ho => ?_)
  obtain ⟨ga, gc, rfl⟩ := (ho.rd encI_ok).form
  obtain ⟨va, vc, rfl⟩ := hv.form
  have hwl : (whichL bs).length ≤ bs.length := by
    unfold whichL
    refine Nat.le_trans (List.length_filter_le _ _) ?_
    simp
  simp
  by_cases hn : (whichL bs).length = want.length
  · simp [hn]
    have hrg := ho.rd encI_ok
    rw [hn] at hrg
    refine ⟨fun s u => ∃ i : Nat, s = [.int .i64 (i : Nat)] ∧ i ≤ want.length ∧ Bel w1 u ∧ (whichL bs).take i = want.take i, fun s _ => (want.length + 1 - n0 s 0).toNat, ⟨0, rfl, by omega, br w1, rfl⟩, ?_⟩
    rintro s u ⟨i, rfl, hi, hu, he⟩
    simp
    refine ifD (fun h1 => ?_) (fun h1 => ?_)
    · have h1' : i < (whichL bs).length := by omega
      refine drawn' (St0 := Bel u) (bd (br u)) fun St hS => ?_
      obtain ⟨b, o, c2, ⟨off, ho', hsl⟩, hat⟩ := ((ho.rd encI_ok).bel hu).at (List.getElem?_eq_getElem h1')
      rw [hn] at hsl
      injection hsl with hsl _ hcc
      subst hsl
      obtain ⟨b', o', c3, ⟨off', ho2, hsl⟩, hat'⟩ := (hv.bel (bt b1 hu)).at (List.getElem?_eq_getElem h1)
      injection hsl with hsl _ _
      subst hsl
      rw [idxR (T := 73) (k := 1) (by kernel_rfl) h1, ← ho']
      refine ⟨.int .i64 ((whichL bs)[i] : Nat), fun a ha => ?_, ?_⟩
      · have := (hat.bel ((hS a).1 ha)).cell0 (by simp [encI])
        simp only [loadW_ptr, shape_3, ldSh_one, this]; rfl
      rw [idxR (T := 73) (k := 1) (by kernel_rfl) h1, ← ho2]
      refine ⟨.int .i64 (want[i] : Nat), fun a ha => ?_, ?_⟩
      · have := (hat'.bel ((hS a).1 ha)).cell0 (by simp [encI])
        simp only [loadW_ptr, shape_3, ldSh_one, this]; rfl
      simp
      have e6 : IntKind.i64.wrap ((i : Int) + 1) = ((i + 1 : Nat) : Int) := i64_succ (by omega)
      refine ifB (fun h2 => ?_) (fun h2 => ?_)
      · have h2 : (whichL bs)[i] ≠ want[i] := by
          have : ¬ (((whichL bs)[i] : Int) = want[i]) := by simpa using h2
          omega
        have := hR u.drew (bd (bt b1 hu))
        rw [decide_eq_false (fun e => h2 (by simp [e]))] at this
        exact this
      · have h2 : (whichL bs)[i] = want[i] := by
          have : (((whichL bs)[i] : Int) = want[i]) := by simpa using h2
          omega
        refine ⟨⟨i + 1, e6, h1, bd hu, ?_⟩, by rw [e6]; simp [n0]; omega⟩
        rw [List.take_succ_eq_append_getElem h1', List.take_succ_eq_append_getElem h1, he, h2]
    · have hi' : i = want.length := by omega
      rw [hi', List.take_length, ← hn, List.take_length] at he
      have := hR u (bt b1 hu)
      rw [decide_eq_true he] at this
      exact this
  · have hne : ¬ ((whichL bs).length : Int) = want.length := by omega
    simp [hne]
    have := hR w1 b1
    rw [decide_eq_false (fun e => hn (by rw [e]))] at this
    exact this
/-- A slice written out. -/
theorem rd_lit {α : Type} {k : Nat} {enc : α → List Value} (he : Enc k enc) {u : World} {g E : Nat} {cs : Array Value} {fr : Nat × Nat} {n c : Nat} (hg : hp u g = some (.cells cs E fr)) {l : List α} (hl : l.flatMap enc = cs.toList) (hn : l.length = n) :
    Rd u k enc (.slice (some ⟨g, 0, none⟩) n c) l := by
  subst hn
  refine ⟨_, _, rfl, fun i x hx => ⟨g, 0, rfl, cs, E, fr, hg, fun j y hy => ?_⟩⟩
  have := flatMap_at he hx hy
  rw [hl] at this
  simpa using this
theorem hp_ext_at {w : World} {L : List Obj} {i : Nat} {o : Obj} (h : L[i]? = some o) : hp (ext w L) (w.heap.size + i) = some o := by simp [h]
theorem Bl.len {w : World} {g : Nat} {l : List Vr} {at_ : List Int} (h : Bl w g (keptL false l (seenL l at_))) : (keptL false l (seenL l at_)).length = l.length := keptL_length _ _ _ (seenL_length l at_)
/-- law20.knows. -/
theorem s19 {w : World} {R : Value → World → Prop} (hR : ∀ w', Bel w w' → R (.bool true) w') : F19 w R := by
  unfold F19
  simp
  refine c56 (s56 (l := [⟨1, 1⟩, ⟨2, 1⟩, ⟨3, 2⟩]) (at_ := [1, 9]) (rd_lit encV_ok (hp_ext_at (i := 0) rfl) rfl rfl) (rd_lit encU_ok (hp_ext_at (i := 3) rfl) rfl rfl) (by decide) (by decide) (by decide) fun w1 g1 b1 hg1 hb1 => ?_)
  have k0 := bg b1 (hp_ext_at (i := 0) rfl)
  have k1 := bg b1 (hp_ext_at (i := 1) rfl)
  have k2 := bg b1 (hp_ext_at (i := 2) rfl)
  have b1 := bt (bx' w _) b1
  simp
  have b2 := bx' w1 [.cells #[.int .i64 0, .int .i64 2] 3]
  refine c55 (s55 (w := ext w1 [.cells #[.int .i64 0, .int .i64 2] 3]) (bs := keptL false [⟨1, 1⟩, ⟨2, 1⟩, ⟨3, 2⟩] (seenL [⟨1, 1⟩, ⟨2, 1⟩, ⟨3, 2⟩] [1, 9])) (want := [0, 2]) (bg b2 hb1) (by decide) (rd_lit encI_ok (hp_ext_at (i := 0) rfl) rfl rfl) fun w2 b2' => ?_)
  have b2 := bt b1 (bt b2 b2')
  rw [decide_eq_true (by decide), ifV_true]
  have b3 := bt b2 (bx' w2 [.cells #[.int .u64 9] 35])
  have up : ∀ {u b X}, Bel w u → hp w1 b = some X → Bel w1 u → hp u b = some X := fun _ h k => bg k h
  have c3 : Bel w1 (ext w2 [.cells #[.int .u64 9] 35]) := bt (bt (bx' w1 _) b2') (bx' w2 _)
  refine c56 (s56 (l := [⟨1, 1⟩, ⟨3, 2⟩]) (at_ := [9]) (rd_lit encV_ok (bg c3 k1) rfl rfl) (rd_lit encU_ok (hp_ext_at (i := 0) rfl) rfl rfl) (by decide) (by decide) (by decide) fun w3 g3 b3' hg3 hb3 => ?_)
  have b3 := bt b3 b3'
  have c3 := bt c3 b3'
  refine c55 (s55 (bs := keptL false [⟨1, 1⟩, ⟨3, 2⟩] (seenL [⟨1, 1⟩, ⟨3, 2⟩] [9])) (want := []) hb3 (by decide) ⟨none, 0, rfl, fun i x hx => by simp at hx⟩ fun w4 b4' => ?_)
  have b4 := bt b3 b4'
  have c4 := bt c3 b4'
  rw [decide_eq_true (by decide), ifV_true]
  have b5 := bt b4 (bx' w4 [.cells #[.int .u64 1, .int .u64 2] 35])
  have c5 := bt c4 (bx' w4 [.cells #[.int .u64 1, .int .u64 2] 35])
  refine c56 (s56 (l := [⟨1, 2⟩, ⟨2, 1⟩]) (at_ := [1, 2]) (rd_lit encV_ok (bg c5 k2) rfl rfl) (rd_lit encU_ok (hp_ext_at (i := 0) rfl) rfl rfl) (by decide) (by decide) (by decide) fun w5 g5 b5' hg5 hb5 => ?_)
  have b5 := bt b5 b5'
  have c5 := bt c5 b5'
  have b6 := bx' w5 [.cells #[.int .i64 1] 3]
  refine c55 (s55 (w := ext w5 [.cells #[.int .i64 1] 3]) (bs := keptL false [⟨1, 2⟩, ⟨2, 1⟩] (seenL [⟨1, 2⟩, ⟨2, 1⟩] [1, 2])) (want := [1]) (bg b6 hb5) (by decide) (rd_lit encI_ok (hp_ext_at (i := 0) rfl) rfl rfl) fun w6 b6' => ?_)
  have b6 := bt b5 (bt (bx' w5 _) b6')
  have c6 := bt c5 (bt (bx' w5 _) b6')
  rw [decide_eq_true (by decide), ifV_true]
  refine c57 (s57 (l := [⟨1, 1⟩, ⟨2, 1⟩, ⟨3, 2⟩]) (rd_lit encV_ok (bg c6 k0) rfl rfl) (by decide) (by decide) fun w7 b7 => ?_)
  refine (ifV_true _ _).2 ?_
  refine c57 (s57 (l := [⟨1, 1⟩, ⟨2, 1⟩, ⟨3, 2⟩]) (rd_lit encV_ok (bg (bt c6 b7) k0) rfl rfl) (by decide) (by decide) fun w8 b8 => ?_)
  simp
  exact hR _ (bt b6 (bt b7 b8))
end Go.Proofs.Ytbcmoikpmmjlkaa
