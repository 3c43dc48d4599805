/- Law 25: the document's own plan: small parts. -/
import Derived.Test.YtbcmoikpmmjlkaaPC
import Derived.Laws.Strings
import Derived.WideShapes
namespace Go.Proofs.Ytbcmoikpmmjlkaa
open Go Eng
set_option maxRecDepth 100000
theorem strOf_inj : ∀ {a b : List Nat}, (∀ x ∈ a, x < 256) → (∀ x ∈ b, x < 256) → strOf a = strOf b → a = b := by
  intro a b ha hb h
  unfold strOf at h
  injection h with h
  have h : a.map UInt8.ofNat = b.map UInt8.ofNat := by simpa using h
  have key : ∀ (a b : List Nat), (∀ x ∈ a, x < 256) → (∀ x ∈ b, x < 256) → a.map UInt8.ofNat = b.map UInt8.ofNat → a = b := by
    intro a
    induction a with
    | nil => intro b _ _ h; cases b with
      | nil => rfl
      | cons y b => simp at h
    | cons x a ih => intro b ha hb h; cases b with
      | nil => simp at h
      | cons y b =>
        rw [List.map_cons, List.map_cons] at h
        injection h with h1 h2
        have hx := ha x List.mem_cons_self
        have hy := hb y List.mem_cons_self
        have h1 := congrArg UInt8.toNat h1
        simp at h1
        rw [ih b (fun z hz => ha z (List.mem_cons_of_mem _ hz)) (fun z hz => hb z (List.mem_cons_of_mem _ hz)) h2]
        congr 1
        omega
  exact key a b ha hb h
theorem pure_eqStr (a b : ByteArray) (K : Value → Prop) : pureP Pg (binS .eql 9 (.string a) (.string b)) K ↔ K (.bool (decide (a = b))) := pureP_of fun w => by
  simp only [binS, binOp]
  have : (a.toList == b.toList) = decide (a = b) := by
    rw [Bool.eq_iff_iff, beq_iff_eq, decide_eq_true_eq, ByteArray.toList_eq, ByteArray.toList_eq]
    exact ⟨fun h => WideShapes.bytes_inj h, fun h => by rw [h]⟩
  simp [Op.stringOp, this]
/-- ref25.same. -/
theorem s72 {w : World} {x y : Im} (hx : Bs w x.kv x.it.key) (hy : Bs w y.kv y.it.key) (bx : ∀ c ∈ x.it.key, c < 256) (by' : ∀ c ∈ y.it.key, c < 256) {R : Value → World → Prop} (hR : ∀ w', Bel w w' → R (.bool (decide (x.it.key = y.it.key))) w') :
    F72 (.agg (encIm x).toArray) (.agg (encIm y).toArray) w R := by
  unfold F72
  simp [encIm]
  have hb := bx' w [.cells #[.slice x.ka x.it.key.length x.kc, .int .u64 x.it.seq, .int .i64 x.it.kind, .int .i64 x.it.size] 107, .cells #[.slice y.ka y.it.key.length y.kc, .int .u64 y.it.seq, .int .i64 y.it.kind, .int .i64 y.it.size] 107]
  generalize ext w [.cells #[.slice x.ka x.it.key.length x.kc, .int .u64 x.it.seq, .int .i64 x.it.kind, .int .i64 x.it.size] 107, .cells #[.slice y.ka y.it.key.length y.kc, .int .u64 y.it.seq, .int .i64 y.it.kind, .int .i64 y.it.size] 107] = u at hb ⊢
  refine conv_back (hx.bel hb) bx ?_
  refine conv_back (hy.bel hb) by' ?_
  refine (pure_eqStr _ _ _).2 ?_
  have : decide (strOf x.it.key = strOf y.it.key) = decide (x.it.key = y.it.key) := decide_eq_decide.2 ⟨strOf_inj bx by', fun e => by rw [e]⟩
  rw [this]
  exact hR u hb
/-- Items whose keys are all there. -/
theorem Items.bs {w : World} {v : Value} {ims : List Im} (h : Items w v ims) (hk : ∀ x ∈ ims, x.it.key ≠ []) : ∀ x ∈ ims, Bs w x.kv x.it.key := fun x hx => h.key x hx (hk x hx)
/-- ref25.May. -/
theorem s41 {w : World} {v : Value} {l : List Im} (h : Rd w 4 encIm v l) (hl : l.length ≤ 1000000) {R : Value → World → Prop} (hR : ∀ w', Bel w w' → R (.bool (mayI 0 (l.map Im.it))) w') : F41 v w R := by
  obtain ⟨a, c, rfl⟩ := h.form
  unfold F41
  refine ⟨fun s u => ∃ (i : Nat) (last : Int), s = [.int .i64 (i : Nat)] ∧ i ≤ l.length ∧ Bel w u ∧ mayI 0 (l.map Im.it) = mayI last ((l.drop i).map Im.it) ∧ ((i = 0 ∧ last = 0) ∨ (∃ (j : Nat) (y : Im), i = j + 1 ∧ l[j]? = some y ∧ last = y.it.seq ∧ 1 ≤ last)), fun s _ => (l.length + 1 - n0 s 0).toNat, ⟨0, 0, rfl, by omega, br w, rfl, .inl ⟨rfl, rfl⟩⟩, ?_⟩
  rintro s u ⟨i, last, rfl, hi, hu, hm, hlast⟩
  simp
  refine ifD (fun h1 => ?_) (fun h1 => ?_)
  · have hget := List.getElem?_eq_getElem h1
    obtain ⟨b, o, c2, ⟨off, ho, hsl⟩, hat⟩ := (h.bel hu).at hget
    injection hsl with hsl _ _
    subst hsl
    have hd : l.drop i = l[i] :: l.drop (i + 1) := List.drop_eq_getElem_cons h1
    rw [hd, List.map_cons, mayI] at hm
    rw [idxR (T := 105) (k := 4) (by kernel_rfl) h1, ← ho]
    generalize l[i] = x at hat hm hget
    obtain ⟨ka, kc, ⟨key, seq, kind, size⟩⟩ := x
    simp [hat.cells0, encIm]
    have hx := bx hu [.cells #[.slice ka key.length kc, .int .u64 seq, .int .i64 kind, .int .i64 size] 107]
    have g0 := hp_ext_at (w := u) (L := [.cells #[.slice ka key.length kc, .int .u64 seq, .int .i64 kind, .int .i64 size] 107]) (i := 0) rfl
    rw [Nat.add_zero] at g0
    have hux := bx' u [.cells #[.slice ka key.length kc, .int .u64 seq, .int .i64 kind, .int .i64 size] 107]
    rw [← drew_ext]
    generalize ext u [.cells #[.slice ka key.length kc, .int .u64 seq, .int .i64 kind, .int .i64 size] 107] = u1 at hx g0 hux ⊢
    generalize u.heap.size = r at g0 ⊢
    have e6 : IntKind.i64.wrap ((i : Int) + 1) = ((i + 1 : Nat) : Int) := wrap_i64 (by omega) (by omega)
    rw [e6]
    have bad : ∀ u2, Bel u1 u2 → Itm.bad last ⟨key, seq, kind, size⟩ → R (.bool false) u2 := fun u2 h2 hb => by
      rw [if_pos hb] at hm
      rw [← hm]; exact hR _ (bt hx h2)
    have bad1 := bad u1 (br u1)
    unfold Itm.bad at bad bad1
    dsimp only at bad bad1
    have hl0 : 0 ≤ last := by rcases hlast with ⟨_, h⟩ | ⟨_, _, _, _, _, h⟩ <;> omega
    refine ifD (fun h2 => bad1 (.inl (by omega))) (fun h2 => ?_)
    refine ifD (fun h3 => bad1 (.inl (by omega))) (fun h3 => ?_)
    simp [g0]
    refine ifD (fun h4 => bad1 (.inr (.inl (by omega)))) (fun h4 => ?_)
    refine ifD (fun h5 => bad1 (.inr (.inr (.inl h5)))) (fun h5 => ?_)
    refine ifD (fun h6 => bad1 (.inr (.inr (.inr (.inl (by omega)))))) (fun h6 => ?_)
    refine ifD (fun h7 => bad1 (.inr (.inr (.inr (.inl (by omega)))))) (fun h7 => ?_)
    refine ifD (fun h8 => bad1 (.inr (.inr (.inr (.inr (.inl h8)))))) (fun h8 => ?_)
    refine ifD (fun h9 => bad1 (.inr (.inr (.inr (.inr (.inr h9)))))) (fun h9 => ?_)
    have hd1 := bd (br u1)
    have good : last < seq → (∃ (i_1 : Nat) (last_1 : Int), ([Value.int .i64 ((i + 1 : Nat) : Int)] : List Value) = [.int .i64 (i_1 : Nat)] ∧ i_1 ≤ l.length ∧ Bel w u1.drew ∧ mayI 0 (l.map Im.it) = mayI last_1 ((l.drop i_1).map Im.it) ∧ ((i_1 = 0 ∧ last_1 = 0) ∨ (∃ (j : Nat) (y : Im), i_1 = j + 1 ∧ l[j]? = some y ∧ last_1 = y.it.seq ∧ 1 ≤ last_1))) := fun hlt => by
      rw [if_neg (by unfold Itm.bad; dsimp only; omega)] at hm
      exact ⟨i + 1, seq, rfl, h1, bt hx hd1, hm, .inr ⟨i, _, rfl, hget, rfl, by omega⟩⟩
    refine drawn' (St0 := Bel u1) hd1 fun St hS => ?_
    have hSu := (hS u1.drew).2 hd1
    refine ifD (fun h10 => ?_) (fun h10 => ?_)
    · rcases hlast with ⟨h, _⟩ | ⟨j, y, hij, hjy, hly, _⟩
      · omega
      · have hjl : j < l.length := by omega
        have e7 : IntKind.i64.wrap ((i : Int) - 1) = (j : Int) := by rw [wrap_i64 (by omega) (by omega)]; omega
        rw [e7]
        obtain ⟨b', o', c3, ⟨off', ho', hsl⟩, hat'⟩ := (h.bel (bt hu hux)).at hjy
        injection hsl with hsl _ _
        injection hsl with hsl
        injection hsl with hsl1 hsl2
        subst hsl1; subst hsl2
        rw [idxR (T := 105) (k := 4) (by kernel_rfl) hjl, ← ho']
        simp
        refine ⟨.int .u64 y.it.seq, fun a ha => ?_, ?_⟩
        · have := (hat'.bel ((hS a).1 ha)).cell 1 (by simp [encIm])
          simp only [loadW_ptr, shape_35, ldSh_one, this]; rfl
        rw [readP_iff (fun a ha => bg ((hS a).1 ha) g0) hSu]
        simp
        refine ifD (fun h11 => bad _ hd1 (.inr (.inl (by omega)))) (fun h11 => ?_)
        obtain ⟨i1, l1, e1, e2⟩ := good (by omega)
        exact ⟨⟨i1, by simpa using e1, e2.1, e2.2.1, l1, by simpa using e2.2.2⟩, by simp [n0]; omega⟩
    · rcases hlast with ⟨h, hl0⟩ | ⟨j, y, hij, _⟩
      · obtain ⟨i1, l1, e1, e2⟩ := good (by omega)
        exact ⟨⟨i1, by simpa using e1, e2.1, e2.2.1, l1, by simpa using e2.2.2⟩, by simp [n0]; omega⟩
      · omega
  · have : l.drop i = [] := List.drop_eq_nil_of_le (by omega)
    rw [this] at hm
    have := hR u hu
    rw [hm] at this
    exact this
/-- No younger one of its key, of the first 'n', is at most at a number. -/
def newB (its : List Itm) (i : Nat) (sk : Int) (n : Nat) : Bool := (List.range n).all fun j' => !(decide (i < j') && sameK its i j' && decide ((its.getD j' default).seq ≤ sk))
/-- ref25.seen. -/
theorem s71 {w : World} {v av : Value} {ims : List Im} {at_ : List Int} (h : Items w v ims) (hk : ∀ x ∈ ims, x.it.key ≠ []) (ha : Rd w 1 encU av at_) (hl : ims.length ≤ 100000) (hl2 : at_.length ≤ 100000) {i : Nat} (hi : i < ims.length) {R : Value → World → Prop}
    (hR : ∀ w', Bel w w' → R (.bool (seenAt (ims.map Im.it) at_ i)) w') : F71 v (.int .i64 (i : Nat)) av w R := by
  obtain ⟨va, vc, rfl⟩ := h.rd.form
  obtain ⟨aa, ac, rfl⟩ := ha.form
  have hgi := List.getElem?_eq_getElem hi
  have hmi := List.getElem_mem hi
  have hiti := its_at hgi
  have hil : (ims.map Im.it).length = ims.length := by simp
  have hbsi := h.bs hk _ hmi
  have hbyi := h.byte _ hmi
  have hat0 := h.rd.at hgi
  generalize ims[i] = x at hgi hmi hiti hbsi hbyi hat0
  obtain ⟨bi, oi, ci, ⟨offi, hoi, hsli⟩, hati⟩ := hat0
  injection hsli with hsli _ _
  subst hsli
  unfold F71
  refine ⟨fun s u => ∃ k : Nat, s = [.int .i64 (k : Nat)] ∧ k ≤ at_.length ∧ Bel w u ∧ seenAt (ims.map Im.it) (at_.take k) i = false, fun s _ => (at_.length + 1 - n0 s 0).toNat, ⟨0, rfl, by omega, br w, rfl⟩, ?_⟩
  rintro s u ⟨k, rfl, hkk, hu, hs⟩
  simp
  refine ifD (fun h1 => ?_) (fun h1 => ?_)
  · have hgk := List.getElem?_eq_getElem h1
    obtain ⟨b, o, c2, ⟨off, ho, hsl⟩, hat⟩ := (ha.bel hu).at hgk
    injection hsl with hsl _ _
    subst hsl
    have htk : at_.take (k + 1) = at_.take k ++ [at_[k]] := by rw [List.take_succ_eq_append_getElem h1]
    have hsplit : at_ = at_.take k ++ at_[k] :: at_.drop (k + 1) := by rw [← List.drop_eq_getElem_cons h1, List.take_append_drop]
    have e6 : ∀ {m : Nat}, m ≤ 200000 → IntKind.i64.wrap ((m : Int) + 1) = ((m + 1 : Nat) : Int) := fun h => i64_succ (by omega)
    have hd := bd (br u)
    refine drawn' (St0 := Bel u) hd fun St hS => ?_
    refine (idxR (T := 105) (k := 4) (by kernel_rfl) hi).2 ?_
    rw [← hoi]
    simp
    refine ⟨.int .u64 x.it.seq, fun a ha' => ?_, ?_⟩
    · have := (hati.bel (bt hu ((hS a).1 ha'))).cell 1 (by simp [encIm])
      simp only [loadW_ptr, shape_35, ldSh_one, this]; rfl
    refine (idxR (T := 66) (k := 1) (by kernel_rfl) h1).2 ?_
    rw [← ho]
    generalize at_[k] = sk at hat htk hsplit
    refine ⟨.int .u64 sk, fun a ha' => ?_, ?_⟩
    · have := (hat.bel ((hS a).1 ha')).cell0 (by simp [encU])
      simp only [loadW_ptr, shape_35, ldSh_one, this]; rfl
    simp
    have hsn : seenAt (ims.map Im.it) (at_.take (k + 1)) i = (decide (x.it.seq ≤ sk) && newB (ims.map Im.it) i sk ims.length) := by
      have : seenAt (ims.map Im.it) (at_.take (k + 1)) i = (seenAt (ims.map Im.it) (at_.take k) i || (decide (((ims.map Im.it).getD i default).seq ≤ sk) && (List.range (ims.map Im.it).length).all fun j => !(decide (i < j) && sameK (ims.map Im.it) i j && decide (((ims.map Im.it).getD j default).seq ≤ sk)))) := by
        rw [htk]; unfold seenAt; rw [List.any_append]; simp
      rw [this, hs, Bool.false_or, hiti, hil]; rfl
    refine ifD (fun h2 => ?_) (fun h2 => ?_)
    · rw [e6 (by omega)]
      refine ⟨⟨k + 1, rfl, h1, bt hu hd, ?_⟩, by simp [n0]; omega⟩
      rw [hsn, decide_eq_false (by omega), Bool.false_and]
    · rw [e6 (m := i) (by omega)]
      refine ⟨fun s y => ∃ j : Nat, s = [.bool (newB (ims.map Im.it) i sk j), .int .i64 (j : Nat)] ∧ i < j ∧ j ≤ ims.length ∧ Bel u y, fun s _ => (ims.length + 1 - n0 s 1).toNat, ⟨i + 1, ?_, by omega, by omega, hd⟩, ?_⟩
      · have : newB (ims.map Im.it) i sk (i + 1) = true := by
          unfold newB
          rw [List.all_eq_true]
          intro j' hj'
          have := List.mem_range.1 hj'
          rw [decide_eq_false (by omega)]; rfl
        rw [this]
      rintro s y ⟨j, rfl, hij, hj, hy⟩
      simp
      refine ifD (fun h3 => ?_) (fun h3 => ?_)
      · have hgj := List.getElem?_eq_getElem h3
        have hmj := List.getElem_mem h3
        have hitj := its_at hgj
        have hbsj := h.bs hk _ hmj
        have hbyj := h.byte _ hmj
        have hat0 := h.rd.at hgj
        have hsamek : sameK (ims.map Im.it) i j = decide (x.it.key = ims[j].it.key) := by unfold sameK; rw [hiti, hitj]
        generalize ims[j] = z at hgj hmj hitj hbsj hbyj hat0 hsamek
        obtain ⟨bj, oj, cj, ⟨offj, hoj, hslj⟩, hatj⟩ := hat0
        injection hslj with hslj _ _
        injection hslj with hslj
        injection hslj with hs1 hs2
        subst hs1; subst hs2
        have huy := bt hu hy
        have hdy := bd (br y)
        have hallS : newB (ims.map Im.it) i sk (j + 1) = (newB (ims.map Im.it) i sk j && !(decide (x.it.key = z.it.key) && decide (z.it.seq ≤ sk))) := by
          unfold newB
          rw [List.range_succ, List.all_append]
          simp only [List.all_cons, List.all_nil, Bool.and_true]
          rw [decide_eq_true hij, Bool.true_and, hsamek, hitj]
        generalize newB (ims.map Im.it) i sk j = bb at hallS ⊢
        refine drawn' (St0 := Bel y) hdy fun St hS => ?_
        refine (idxR (T := 105) (k := 4) (by kernel_rfl) hi).2 ?_
        rw [← hoi]
        refine ⟨.agg (encIm x).toArray, fun a ha' => ?_, ?_⟩
        · have := (hati.bel (bt huy ((hS a).1 ha'))).cells0 4 (by decide) (by simp [encIm])
          simp only [loadW_ptr, shape_107, ldSh_agg, this]; rfl
        refine (idxR (T := 105) (k := 4) (by kernel_rfl) h3).2 ?_
        rw [← hoj]
        refine ⟨.agg (encIm z).toArray, fun a ha' => ?_, ?_⟩
        · have := (hatj.bel (bt huy ((hS a).1 ha'))).cells0 4 (by decide) (by simp [encIm])
          simp only [loadW_ptr, shape_107, ldSh_agg, this]; rfl
        refine c72 (s72 (hbsi.bel (bt huy hdy)) (hbsj.bel (bt huy hdy)) hbyi hbyj fun y2 b2 => ?_)
        refine ⟨(hS _).2 (bt hdy b2), ?_⟩
        have hy2 := bt hy (bt hdy b2)
        rw [e6 (m := j) (by omega)]
        refine ifD (fun h4 => ?_) (fun h4 => ?_)
        · refine (idxR (T := 105) (k := 4) (by kernel_rfl) h3).2 ?_
          rw [← hoj]
          simp
          refine ⟨.int .u64 z.it.seq, fun a ha' => ?_, ?_⟩
          · have := (hatj.bel (bt huy ((hS a).1 ha'))).cell 1 (by simp [encIm])
            simp only [loadW_ptr, shape_35, ldSh_one, this]; rfl
          refine (idxR (T := 66) (k := 1) (by kernel_rfl) h1).2 ?_
          rw [← ho]
          refine ⟨.int .u64 sk, fun a ha' => ?_, ?_⟩
          · have := (hat.bel (bt hy ((hS a).1 ha'))).cell0 (by simp [encU])
            simp only [loadW_ptr, shape_35, ldSh_one, this]; rfl
          simp
          refine ifD (fun h5 => ?_) (fun h5 => ?_)
          · rw [decide_eq_true h4, decide_eq_true h5] at hallS
            exact ⟨⟨j + 1, ⟨by rw [hallS]; simp, rfl⟩, by omega, h3, hy2⟩, by simp [n0]; omega⟩
          · rw [decide_eq_true h4, decide_eq_false h5] at hallS
            exact ⟨⟨j + 1, ⟨by rw [hallS]; simp, rfl⟩, by omega, h3, hy2⟩, by simp [n0]; omega⟩
        · rw [decide_eq_false h4] at hallS
          exact ⟨⟨j + 1, ⟨by rw [hallS]; simp, rfl⟩, by omega, h3, hy2⟩, by simp [n0]; omega⟩
      · obtain rfl : j = ims.length := by omega
        rw [decide_eq_true (by omega), Bool.true_and] at hsn
        rw [← hsn]
        refine ifB (fun h4 => ?_) (fun h4 => ?_)
        · have hfull : seenAt (ims.map Im.it) at_ i = true := by
            have : ∀ l1 l2, seenAt (ims.map Im.it) l1 i = true → seenAt (ims.map Im.it) (l1 ++ l2) i = true := by
              intro l1 l2 hh
              unfold seenAt at hh ⊢
              rw [List.any_append, hh, Bool.true_or]
            rw [← List.take_append_drop (k + 1) at_]
            exact this _ _ h4
          have := hR y (bt hu hy)
          rw [hfull] at this
          exact this
        · rw [e6 (by omega)]
          exact ⟨⟨k + 1, rfl, h1, bt hu hy, h4⟩, by simp [n0]; omega⟩
  · obtain rfl : k = at_.length := by omega
    rw [List.take_length] at hs
    have := hR u hu
    rw [hs] at this
    exact this
end Go.Proofs.Ytbcmoikpmmjlkaa
