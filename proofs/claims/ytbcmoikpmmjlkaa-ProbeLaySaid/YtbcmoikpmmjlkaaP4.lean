/- Plans: what plan.kept computes. -/
import Derived.Test.YtbcmoikpmmjlkaaP2
import Derived.Test.YtbcmoikpmmjlkaaP3
namespace Go.Proofs.Ytbcmoikpmmjlkaa
open Go Eng
set_option maxRecDepth 100000
section
set_option linter.unusedSectionVars false
variable {κ α : Type} [DecidableEq κ] {w w1 : World} {B m E k : Nat} {ek : κ → Value} {enc : α → List Value} {mb : List (κ × Value)} {rows : κ → List α}
/-- A map of rows but for what the map's block tells. -/
structure GBo (w : World) (B m E k : Nat) (enc : α → List Value) (mb : List (κ × Value)) (rows : κ → List α) : Prop where
  map : ∃ es c, hp w m = some (.map es c)
  own : ∀ c v, look c mb = some v → Own w B E k enc v (rows c) ∧ rows c ≠ []
  no : ∀ c, look c mb = none → rows c = []
  ap : ∀ c c' v v' g, c ≠ c' → look c mb = some v → look c' mb = some v' → v.ownBlock = some g → v'.ownBlock ≠ some g
  ge : B ≤ m
theorem GB.o (h : GB w B m E k ek enc mb rows) : GBo w B m E k enc mb rows := ⟨let ⟨es, c, h1, _⟩ := h.mp; ⟨es, c, h1⟩, h.own, h.no, h.ap, h.ge⟩
theorem GBo.upd (h : GBo w B m E k enc mb rows) {o : Obj} (ho : ∃ es c, o = .map es c) : GBo (upd w m o) B m E k enc mb rows := by
  obtain ⟨es, c, hm⟩ := h.map
  obtain ⟨es', c', rfl⟩ := ho
  refine ⟨⟨es', c', by simp [hm]⟩, fun d v hv => ?_, h.no, h.ap, h.ge⟩
  obtain ⟨h1, h2⟩ := h.own d v hv
  exact ⟨h1.upd hm _, h2⟩
theorem GBo.sl (h : GBo w B m E k enc mb rows) (c : κ) : Own w B E k enc (gsl c mb) (rows c) := by
  unfold gsl
  cases e : look c mb with
  | none => rw [h.no c e]; exact Own.nil _ _ _ _ _
  | some v => exact (h.own c v e).1
theorem GBo.ne (h : GBo w B m E k enc mb rows) {c c' : κ} {v : Value} {g : Nat} (hc : c' ≠ c) (hv : look c' mb = some v) (hg : v.ownBlock = some g) : some g ≠ (gsl c mb).ownBlock := by
  intro e
  unfold gsl at e
  cases e2 : look c mb with
  | none => rw [e2] at e; cases e
  | some v2 => rw [e2] at e; exact h.ap c' c v v2 g hc hv e2 hg e.symm
theorem GBo.step (h : GBo w B m E k enc mb rows) {c : κ} {x : α} {v' : Value} (hg : w.grownBy w1 (gsl c mb).ownBlock)
    (ho : Own w1 B E k enc v' (rows c ++ [x])) (hb : v'.ownBlock = (gsl c mb).ownBlock ∨ v'.ownBlock = some w.heap.size) {o : Obj} (hm : Mp (Eng.upd w1 m o) m ek id (put c v' mb)) :
    GB (Eng.upd w1 m o) B m E k ek enc (put c v' mb) (fun d => if d = c then rows d ++ [x] else rows d) := by
  obtain ⟨es, cl, hmap⟩ := h.map
  have hml := hp_lt hmap
  have n0 : some m ≠ (gsl c mb).ownBlock := (h.sl c).ne hmap (by intro cur e; cases e)
  have hm1 : hp w1 m = some (.map es cl) := grown_hp hg hmap n0
  have n1 : some m ≠ v'.ownBlock := ho.ne hm1 (by intro cur e; cases e)
  refine ⟨hm, ?_, ?_, ?_, h.ge⟩
  · intro d v hv
    rw [look_put] at hv
    by_cases hc : d = c
    · rw [if_pos hc] at hv
      injection hv with hv
      subst hv
      subst hc
      simp only [if_true]
      exact ⟨ho.kept fun g hg => upd_ne _ _ _ _ (by rintro rfl; exact n1 hg.symm), by simp⟩
    · rw [if_neg hc] at hv
      obtain ⟨h1, h2⟩ := h.own d v hv
      simp only [hc, if_false]
      refine ⟨h1.kept fun g hg' => ?_, h2⟩
      have n2 : some m ≠ v.ownBlock := h1.ne hmap (by intro cur e; cases e)
      rw [upd_ne _ _ _ _ (by rintro rfl; exact n2 hg'.symm)]
      exact hg.block g (h1.ge hg').2 (h.ne hc hv hg')
  · intro d hd
    rw [look_put] at hd
    by_cases he : d = c
    · rw [if_pos he] at hd; cases hd
    · rw [if_neg he] at hd
      simp only [he, if_false]
      exact h.no d hd
  · intro d d' v u g hcc hv hu hgv
    rw [look_put] at hv hu
    have old : ∀ {d : κ} {v : Value} {g : Nat}, d ≠ c → look d mb = some v → v.ownBlock = some g → v'.ownBlock ≠ some g := by
      intro d v g hc hv hg' e
      have hl := ((h.own d v hv).1.ge hg').2
      rcases hb with hb | hb
      · exact h.ne hc hv hg' (by rw [← hb, e])
      · rw [hb] at e; injection e with e; omega
    by_cases hc : d = c
    · rw [if_pos hc] at hv
      injection hv with hv
      subst hv
      rw [if_neg (fun e => hcc (hc.trans e.symm))] at hu
      exact fun e => old (fun e => hcc (hc.trans e.symm)) hu e hgv
    · rw [if_neg hc] at hv
      by_cases hc' : d' = c
      · rw [if_pos hc'] at hu
        injection hu with hu
        subst hu
        exact old hc hv hgv
      · rw [if_neg hc'] at hu
        exact h.ap d d' v u g hcc hv hu hgv
end
def encI (n : Nat) : List Value := [.int .i64 (n : Nat)]
theorem encI_ok : Enc 1 encI := ⟨fun _ => rfl, fun x u hu => by simp [encI] at hu; subst hu; rfl, by decide⟩
theorem row73 : RowT 73 3 1 8 := ⟨Try.underlying73, by kernel_rfl⟩
theorem row53 : RowT 53 55 2 16 := ⟨Try.underlying53, by kernel_rfl⟩
theorem zero_73 : zeroT Pg 73 = some (.slice none 0 0) := by kernel_rfl
theorem its_at {ims : List Im} {i : Nat} {x : Im} (h : ims[i]? = some x) : (ims.map Im.it).getD i default = x.it := by
  rw [List.getD_eq_getElem?_getD, List.getElem?_map, h]; rfl
theorem Items.okB {w : World} {v : Value} {ims : List Im} (h : Items w v ims) : ∀ i, i < (ims.map Im.it).length → ∀ c ∈ ((ims.map Im.it).getD i default).key, c < 256 := by
  intro i hi c hc
  have hi' : i < ims.length := by simpa using hi
  rw [its_at (List.getElem?_eq_getElem hi')] at hc
  exact h.byte _ (List.getElem_mem hi') c hc
/-- What is marked behind some prints. -/
def mkD (its : List Itm) (at_ : List Int) (done : List Pr) (i : Nat) : Bool := decide (prOf (its.getD i default).key ∈ done) && keptB its at_ i
/-- plan.kept. -/
theorem s59 {w : World} {v av : Value} {ims : List Im} {at_ : List Int} (h : Items w v ims) (ha : Rd w 1 encU av at_) (hl : ims.length ≤ 100000) (hl2 : at_.length ≤ 100000) (hm : mayI 0 (ims.map Im.it) = true) {R : Value → World → Prop}
    (hR : ∀ w' g, Bel w w' → w.heap.size ≤ g → Bl w' g (keptI (ims.map Im.it) at_) → R (.slice (some ⟨g, 0, none⟩) ims.length ims.length) w') : F59 v av w R := by
  have hmp := mayP_of (Int.le_refl 0) hm
  have hby := h.okB
  have hil : (ims.map Im.it).length = ims.length := by simp
  obtain ⟨va, vc, rfl⟩ := h.rd.form
  unfold F59
  refine mkmap ?_
  simp
  have hg0 : GB (ext w [.map #[] 0]) w.heap.size w.heap.size 3 1 ekP encI [] (fun p => rowK (ims.map Im.it) 0 p) := GB.new w 3 1 ekP encI (Nat.le_refl _)
  have hb0 := bx' w [.map #[] 0]
  refine ⟨fun s u => ∃ (i : Nat) (mb : List (Pr × Value)), s = [.int .i64 (i : Nat)] ∧ i ≤ ims.length ∧ Bel w u ∧ GB u w.heap.size w.heap.size 3 1 ekP encI mb (fun p => rowK (ims.map Im.it) i p), fun s _ => (ims.length + 1 - n0 s 0).toNat, ⟨0, [], rfl, by omega, hb0, hg0⟩, ?_⟩
  rintro s u ⟨i, mb, rfl, hi, hu, hgb⟩
  simp
  refine ifD (fun h1 => ?_) (fun h1 => ?_)
  · obtain ⟨b, o, c2, ⟨off, ho, hsl⟩, hat⟩ := (h.rd.bel hu).at (List.getElem?_eq_getElem h1)
    injection hsl with hsl _ _
    subst hsl
    have hx := List.getElem_mem h1
    have hxi := its_at (List.getElem?_eq_getElem h1)
    have hkl := hmp.key i (by omega)
    rw [hxi] at hkl
    have hrs := rowK_succ (ims.map Im.it) i
    rw [hxi] at hrs
    generalize ims[i] = x at hat hx hkl hrs
    have hbs := h.key x hx (by intro e; rw [e] at hkl; simp at hkl)
    have hbyx := h.byte x hx
    obtain ⟨ka, kc, ⟨key, seq, kind, size⟩⟩ := x
    dsimp only [Im.kv] at hbs hbyx hkl hrs
    rw [idxR (T := 63) (k := 4) (by kernel_rfl) h1, ← ho]
    simp [hat.cells0, encIm]
    have hx1 := bt hu (bx' u [.cells #[.slice ka key.length kc, .int .u64 seq, .int .i64 kind, .int .i64 size] 79])
    have hgb1 := hgb.bel (bx' u [.cells #[.slice ka key.length kc, .int .u64 seq, .int .i64 kind, .int .i64 size] 79])
    generalize ext u [.cells #[.slice ka key.length kc, .int .u64 seq, .int .i64 kind, .int .i64 size] 79] = u1 at hx1 hgb1 ⊢
    refine c49 (s49 (hbs.bel hx1) hbyx hkl.1 hkl.2 fun u2 b2 => ?_)
    have hx2 := bt hx1 b2
    have hgb2 := hgb1.bel b2
    simp [ekP]
    have b3 := bx' u2 [.cells #[.int .u8 (prOf key).n, .int .u64 (prOf key).a, .int .u64 (prOf key).b, .int .u64 (prOf key).c, .int .u64 (prOf key).d, .int .u64 (prOf key).e, .int .u64 (prOf key).f, .int .u64 (prOf key).g, .int .u64 (prOf key).h] 133, .cells #[.int .i64 (i : Nat)] 3]
    have g3 := hp_ext_at (w := u2) (L := [.cells #[.int .u8 (prOf key).n, .int .u64 (prOf key).a, .int .u64 (prOf key).b, .int .u64 (prOf key).c, .int .u64 (prOf key).d, .int .u64 (prOf key).e, .int .u64 (prOf key).f, .int .u64 (prOf key).g, .int .u64 (prOf key).h] 133, .cells #[.int .i64 (i : Nat)] 3]) (i := 1) rfl
    have hx3 := bt hx2 b3
    have hgb3 := hgb2.bel b3
    generalize ext u2 [.cells #[.int .u8 (prOf key).n, .int .u64 (prOf key).a, .int .u64 (prOf key).b, .int .u64 (prOf key).c, .int .u64 (prOf key).d, .int .u64 (prOf key).e, .int .u64 (prOf key).f, .int .u64 (prOf key).g, .int .u64 (prOf key).h] 133, .cells #[.int .i64 (i : Nat)] 3] = u3 at g3 hx3 hgb3 ⊢
    generalize u2.heap.size + 1 = q at g3 ⊢
    refine mentry (ek := ekP) (E := 73) keyP Try.underlying168 zero_73 hgb3.mp (prOf key) ?_
    rintro o1 born ho1 hst
    simp
    have hgo := hgb3.o.upd ho1
    have hx4 : Bel w (upd u3 w.heap.size o1) := bu hx3 (Nat.le_refl _) _
    have hne : q ≠ w.heap.size := by
      rintro rfl
      obtain ⟨es, c, hh, _⟩ := hgb3.mp
      rw [hh] at g3; cases g3
    have g4 : hp (upd u3 w.heap.size o1) q = some (.cells #[.int .i64 (i : Nat)] 3) := by rw [upd_ne _ _ _ _ hne]; exact g3
    generalize upd u3 w.heap.size o1 = u4 at hst hgo hx4 g4 ⊢
    have hsl4 := hgo.sl (prOf key)
    have hrl := rowK_length (ims.map Im.it) i (prOf key)
    refine app row73 encI_ok hsl4 (x := i) g4 rfl (by omega) (by simp only [maxLen]; omega) hx4.size fun v' u5 ho' hg' hv' => ?_
    obtain ⟨es4, cl4, hmap4⟩ := hgo.map
    have nr1 : some w.heap.size ≠ (gsl (prOf key) mb).ownBlock := hsl4.ne hmap4 (by intro cur e; cases e)
    have hst5 := hst.keep (hg'.block _ (hp_lt hmap4) nr1)
    have hx5 : Bel w u5 := grown_bel hg' hx4 fun g hg => (hsl4.ge hg).1
    refine estore (v' := v') hst5 ?_
    rintro o2 _ hm2
    rw [put_put] at hm2
    have hgb6 := hgo.step hg' ho' hv' hm2
    have e6 : IntKind.i64.wrap ((i : Int) + 1) = ((i + 1 : Nat) : Int) := wrap_i64 (by omega) (by omega)
    rw [e6]
    refine ⟨⟨i + 1, rfl, h1, bu hx5 (Nat.le_refl _) _, put (prOf key) v' mb, ?_⟩, by simp [n0]; omega⟩
    have hf : (fun p : Pr => if p = prOf key then rowK (ims.map Im.it) i p ++ [i] else rowK (ims.map Im.it) i p) = fun p => rowK (ims.map Im.it) (i + 1) p := by
      funext p; rw [hrs p]
    rw [hf] at hgb6
    exact hgb6
  · have hie : i = ims.length := by omega
    subst hie
    refine mkB (by omega) ?_
    have hbx := bx' u [.cells ((List.replicate ims.length false).map Value.bool).toArray 4]
    have hbl := hp_ext_at (w := u) (L := [.cells ((List.replicate ims.length false).map Value.bool).toArray 4]) (i := 0) rfl
    rw [Nat.add_zero] at hbl
    have hsz0 : (ext u [.cells ((List.replicate ims.length false).map Value.bool).toArray 4]).heap.size = u.heap.size + 1 := by simp
    have husz := hu.size
    generalize ext u [.cells ((List.replicate ims.length false).map Value.bool).toArray 4] = u1 at hbx hbl hsz0 ⊢
    have hgb1 := hgb.bel hbx
    have hnod : (mb.map (·.1)).Nodup := by obtain ⟨_, _, _, _, h, _⟩ := hgb.mp; exact h
    refine rng Try.underlying168 hgb1.mp fun o1 hit => ?_
    rw [hsz0] at hit ⊢
    have hxo := bt hbx (bx' u1 [o1])
    have hbl1 : Bl (ext u1 [o1]) u.heap.size (List.replicate ims.length false) := bg (bx' u1 [o1]) hbl
    refine ⟨fun st x => st = [] ∧ Bel u x ∧ ∃ done, It x (u.heap.size + 1) w.heap.size ekP id mb done ∧ Bl x u.heap.size ((List.range ims.length).map fun i => mkD (ims.map Im.it) at_ done i), fun _ x => mb.length - seenN x (u.heap.size + 1), ⟨rfl, hxo, [], hit, ?_⟩, ?_⟩
    · have : (List.range ims.length).map (fun i => mkD (ims.map Im.it) at_ [] i) = List.replicate ims.length false := by
        simp [mkD, List.map_const']
      rw [this]; exact hbl1
    rintro st x ⟨rfl, hx, done, hit, hblx⟩
    have hwx := bt hu hx
    refine nxt hit (fun hall => ?_) (fun p rv x' hmem hnd hit' hcur hfr hsz => ?_)
    · simp
      refine hR x u.heap.size hwx husz ?_
      have : (List.range ims.length).map (fun i => mkD (ims.map Im.it) at_ done i) = keptI (ims.map Im.it) at_ := by
        unfold keptI
        rw [hil]
        apply List.map_congr_left
        intro i hi
        have hi := List.mem_range.1 hi
        have hin : i ∈ rowK (ims.map Im.it) ims.length (prOf ((ims.map Im.it).getD i default).key) := rowK_mem.2 ⟨hi, rfl⟩
        cases hlk : look (prOf ((ims.map Im.it).getD i default).key) mb with
        | none => rw [hgb.no _ hlk] at hin; cases hin
        | some v =>
          rw [mkD, decide_eq_true (hall _ (look_mem hlk)), Bool.true_and]
      rw [this] at hblx
      exact hblx
    simp
    refine getR hcur.run ?_
    have hlk := look_of_mem hnod hmem
    obtain ⟨hown, _⟩ := hgb.own _ _ hlk
    have hx' : Bel u x' := hfr.below hx (by rintro b rfl; omega)
    have hwx' := bt hu hx'
    have hblx' : Bl x' u.heap.size _ := hfr.get hblx (by omega)
    have hkr := fun (k i : Nat) => keptL_row hmp hby at_ p (k := k) (i := i)
    have hrup := rowK_up (its := ims.map Im.it) (n := ims.length) (p := p)
    have hrm := fun (j : Nat) => rowK_mem (its := ims.map Im.it) (n := ims.length) (p := p) (j := j)
    have hrl := rowK_length (ims.map Im.it) ims.length p
    have hvm := versR_may hmp (rowK (ims.map Im.it) ims.length p) 0 hrup (fun j hj => by rw [hil]; exact ((hrm j).1 hj).1) (fun j hj => (hmp.seq j (by rw [hil]; exact ((hrm j).1 hj).1)).1)
    rw [hil] at hkr
    have hmany := hit.many
    have hmany' := hit'.many
    clear hit hfr hblx hcur hx hwx hsz
    generalize hrow : rowK (ims.map Im.it) ims.length p = row at hown hkr hrup hrm hrl hvm
    obtain ⟨ra, rc, hrf⟩ := (hown.rd encI_ok).form
    have hrd := hown.rd encI_ok
    rw [hrf] at hrd ⊢
    simp
    refine ⟨fun st z => ∃ (tv : Value) (k : Nat), st = [tv, .int .i64 (k : Nat)] ∧ k ≤ row.length ∧ Bel x' z ∧ Own z x'.heap.size 55 2 encV tv (versR (ims.map Im.it) (row.take k)), fun st _ => (row.length + 1 - n0 st 1).toNat, ⟨_, 0, rfl, by omega, br x', Own.nil _ _ _ _ _⟩, ?_⟩
    rintro st z ⟨tv, k, rfl, hk, hz, hto⟩
    simp
    have hrz := hrd.bel (bt hx' hz)
    refine ifD (fun h2 => ?_) (fun h2 => ?_)
    · have hget := List.getElem?_eq_getElem h2
      have htk : row.take (k + 1) = row.take k ++ [row[k]] := by rw [List.take_succ_eq_append_getElem h2]
      obtain ⟨b, o, c2, ⟨off, ho, hsl⟩, hat⟩ := hrz.at hget
      injection hsl with hsl _ _
      subst hsl
      have hjn := ((hrm _).1 (List.getElem_mem h2)).1
      rw [idxR (T := 73) (k := 1) (by kernel_rfl) h2, ← ho]
      generalize row[k] = j at hat hget hjn htk
      simp [hat.cell0, encI]
      obtain ⟨b2, o2, c3, ⟨off2, ho2, hsl2⟩, hat2⟩ := (h.rd.bel hwx').at (List.getElem?_eq_getElem hjn)
      injection hsl2 with hsl2 _ _
      subst hsl2
      have hits := its_at (List.getElem?_eq_getElem hjn)
      generalize ims[j] = y at hat2 hits
      refine drawn' (St0 := Bel x') (bd hz) fun St hS => ?_
      rw [idxR (T := 63) (k := 4) (by kernel_rfl) hjn, ← ho2]
      simp
      refine ⟨.int .u64 y.it.seq, fun a ha => ?_, ?_⟩
      · have := (hat2.bel ((hS a).1 ha)).cell 1 (by simp [encIm])
        simp only [loadW_ptr, shape_35, ldSh_one, this]; rfl
      rw [idxR (T := 63) (k := 4) (by kernel_rfl) hjn, ← ho2]
      simp
      refine ⟨.int .i64 y.it.kind, fun a ha => ?_, ?_⟩
      · have := (hat2.bel ((hS a).1 ha)).cell 2 (by simp [encIm])
        simp only [loadW_ptr, shape_3, ldSh_one, this]; rfl
      simp
      have hzd := bd (br z)
      have b3 := bx' z.drew [.cells #[.int .u64 y.it.seq, .int .i64 y.it.kind] 55]
      have g3 := hp_ext_at (w := z.drew) (L := [.cells #[.int .u64 y.it.seq, .int .i64 y.it.kind] 55]) (i := 0) rfl
      rw [Nat.add_zero] at g3
      refine ⟨(hS _).2 (bt hz (bt hzd b3)), ?_⟩
      have hto3 := hto.bel (bt hzd b3)
      have hz3 := bt hz (bt hzd b3)
      rw [show z.heap.size = z.drew.heap.size from rfl]
      generalize hz1 : ext z.drew [.cells #[.int .u64 y.it.seq, .int .i64 y.it.kind] 55] = z1 at b3 g3 hto3 hz3 ⊢
      refine app row53 encV_ok hto3 (x := ⟨y.it.seq, y.it.kind⟩) g3 rfl (by rw [versR_length]; simp; omega) (by rw [versR_length]; simp [maxLen]; omega) hz3.size fun v' z2 ho' hg' hv' => ?_
      have hz2 : Bel x' z2 := grown_bel hg' hz3 fun g hg => (hto3.ge hg).1
      refine ⟨(hS _).2 hz2, ?_⟩
      have e6 : IntKind.i64.wrap ((k : Int) + 1) = ((k + 1 : Nat) : Int) := wrap_i64 (by omega) (by omega)
      rw [e6]
      refine ⟨⟨v', k + 1, ⟨rfl, rfl⟩, h2, hz2, ?_⟩, by simp [n0]; omega⟩
      have : versR (ims.map Im.it) (row.take (k + 1)) = versR (ims.map Im.it) (row.take k) ++ [⟨y.it.seq, y.it.kind⟩] := by
        rw [htk]; unfold versR; rw [List.map_append, List.map_singleton, hits]
      rw [this]; exact ho'
    · obtain rfl : k = row.length := by omega
      rw [List.take_length] at hto
      have hvl := versR_length (ims.map Im.it) row
      have htd := hto.rd encV_ok
      refine c56 (s56 htd (ha.bel (bt hwx' hz)) (by omega) (by omega) hvm fun z2 g b2 hgz hgb2 => ?_)
      have hz2 := bt hz b2
      have hgt := hp_lt hgb2
      rw [hvl]
      simp
      have hkl := keptL_length false (versR (ims.map Im.it) row) (seenL (versR (ims.map Im.it) row) at_) (seenL_length _ _)
      rw [hvl] at hkl
      generalize keptL false (versR (ims.map Im.it) row) (seenL (versR (ims.map Im.it) row) at_) = marks at hgb2 hkr hkl
      have hlt' := hp_lt hblx'
      have hzsz := hz.size
      have hne : g ≠ u.heap.size := by omega
      have hblz : Bl z2 u.heap.size _ := bg hz2 hblx'
      refine ⟨fun st y => ∃ k : Nat, st = [.int .i64 (k : Nat)] ∧ k ≤ row.length ∧ Fr (fun b => b = u.heap.size) z2 y ∧ Bl y u.heap.size ((List.range ims.length).map fun i => if i ∈ row.take k then keptB (ims.map Im.it) at_ i else mkD (ims.map Im.it) at_ done i), fun st _ => (row.length + 1 - n0 st 0).toNat, ⟨0, rfl, by omega, Fr.refl _ _, by simpa using hblz⟩, ?_⟩
      rintro st y ⟨k, rfl, hk, hfy, hby'⟩
      simp
      have huy : Bel u y := hfy.below (bt hx' hz2) (by rintro b rfl; exact Nat.le_refl _)
      have hgy : Bl y g marks := hfy.get hgb2 hne
      refine ifD (fun h3 => ?_) (fun h3 => ?_)
      · have hget := List.getElem?_eq_getElem h3
        have htk : row.take (k + 1) = row.take k ++ [row[k]] := by rw [List.take_succ_eq_append_getElem h3]
        have hjr := List.getElem_mem h3
        have hkm := hkr k _ hget
        obtain ⟨b, o, c2, ⟨off, ho, hsl⟩, hat⟩ := (hrd.bel huy).at hget
        injection hsl with hsl _ _
        subst hsl
        have hjn := ((hrm _).1 hjr).1
        rw [idxR (T := 142) (k := 1) (by kernel_rfl) h3, Nat.mul_one, Nat.zero_add, hgy.get (i := k) (by omega), getO_some]
        rw [idxR (T := 73) (k := 1) (by kernel_rfl) h3, ← ho]
        have hmk : marks[k]'(by omega) = keptB (ims.map Im.it) at_ row[k] := by
          rw [List.getElem?_eq_getElem (by omega)] at hkm
          injection hkm
        rw [hmk]
        have hnt : row[k] ∉ row.take k := by
          intro hm
          obtain ⟨m, hm⟩ := List.getElem?_of_mem hm
          have hmk := (List.getElem?_eq_some_iff.1 hm).1
          rw [List.length_take] at hmk
          rw [List.getElem?_take, if_pos (by omega)] at hm
          have := (row_at hrup hm hget).2 (by omega)
          omega
        generalize row[k] = j at hat hget hjn htk hmk hjr hnt
        simp [hat.cell0, encI]
        rw [idxR (T := 142) (k := 1) (by kernel_rfl) hjn, Nat.mul_one, Nat.zero_add, hby'.set (by simpa using hjn)]
        have e6 : IntKind.i64.wrap ((k : Int) + 1) = ((k + 1 : Nat) : Int) := wrap_i64 (by omega) (by omega)
        rw [e6]
        refine ⟨⟨k + 1, rfl, h3, hfy.upd (.inl rfl) _, ?_⟩, by simp [n0]; omega⟩
        have hup := hby'.upd (((List.range ims.length).map fun i => if i ∈ row.take k then keptB (ims.map Im.it) at_ i else mkD (ims.map Im.it) at_ done i).set j (keptB (ims.map Im.it) at_ j))
        have heq : ((List.range ims.length).map fun i => if i ∈ row.take k then keptB (ims.map Im.it) at_ i else mkD (ims.map Im.it) at_ done i).set j (keptB (ims.map Im.it) at_ j) = (List.range ims.length).map fun i => if i ∈ row.take (k + 1) then keptB (ims.map Im.it) at_ i else mkD (ims.map Im.it) at_ done i := by
          apply List.ext_getElem?
          intro i
          rw [List.getElem?_set, List.getElem?_map, List.getElem?_map]
          by_cases hij : j = i
          · subst hij
            rw [if_pos rfl, if_pos (by simpa using hjn), List.getElem?_range hjn, Option.map_some, if_pos (by rw [htk]; simp)]
          · rw [if_neg hij]
            by_cases hin : i < ims.length
            · rw [List.getElem?_range hin, Option.map_some, Option.map_some]
              congr 1
              have : (i ∈ row.take (k + 1)) = (i ∈ row.take k) := by rw [htk]; simp [Ne.symm hij]
              simp only [this]
            · rw [List.getElem?_eq_none (by simp; omega)]
              rfl
        rw [← heq]
        exact hup
      · obtain rfl : k = row.length := by omega
        rw [List.take_length] at hby'
        have hc1 : (p :: done).length = done.length + 1 := rfl
        have hit2 : It y (u.heap.size + 1) w.heap.size ekP id mb (p :: done) := by
          have hmm := hgb.mp.lt
          obtain ⟨_, _, _, hh1, hh2, _⟩ := hit'.bel hz2
          exact (hit'.bel hz2).keep (hfy.block _ (hp_lt hh2) (by omega)) (hfy.block _ (hp_lt hh1) (by omega))
        have hm2 := hit2.many
        refine ⟨⟨huy, _, hit2, ?_⟩, by omega⟩
        have heq : ((List.range ims.length).map fun i => if i ∈ row then keptB (ims.map Im.it) at_ i else mkD (ims.map Im.it) at_ done i) = (List.range ims.length).map fun i => mkD (ims.map Im.it) at_ (p :: done) i := by
          apply List.map_congr_left
          intro i hi
          have hi := List.mem_range.1 hi
          by_cases hir : i ∈ row
          · rw [if_pos hir, mkD, decide_eq_true (List.mem_cons.2 (.inl ((hrm i).1 hir).2)), Bool.true_and]
          · have hnp : prOf ((ims.map Im.it).getD i default).key ≠ p := fun e => hir ((hrm i).2 ⟨hi, e⟩)
            rw [if_neg hir]
            unfold mkD
            congr 1
            rw [Bool.eq_iff_iff, decide_eq_true_eq, decide_eq_true_eq, List.mem_cons]
            exact ⟨.inr, fun h => h.resolve_left hnp⟩
        rw [heq] at hby'
        exact hby'
end Go.Proofs.Ytbcmoikpmmjlkaa
