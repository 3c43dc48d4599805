/- Records of law 18: what rows makes. -/
import Derived.Test.YtbcmoikpmmjlkaaN
namespace Go.Proofs.Ytbcmoikpmmjlkaa
open Go Eng
set_option maxRecDepth 100000

theorem hp_new (u : World) (o : Obj) : hp (ext u [o]) u.heap.size = some o := by simp
theorem Own.row {α : Type} {w : World} {B E k : Nat} {enc : α → List Value} {v : Value} {l : List α} (h : Own w B E k enc v l) {g : Nat} (hg : v.ownBlock = some g) : ∃ cur, hp w g = some (.cells cur E (0, 0)) := by
  obtain ⟨h0, h | ⟨g', cap, cur, rfl, hB, hg', _⟩⟩ := h
  · rw [h.1] at hg; cases hg
  · injection hg with hg
    subst hg
    exact ⟨cur, hg'⟩
theorem Own.aside {α β : Type} {w w' : World} {B E k : Nat} {enc : α → List Value} {v : Value} {l : List α} (h : Own w B E k enc v l) {B2 E2 k2 : Nat} {enc2 : β → List Value} {v2 : Value} {l2 : List β} (h2 : Own w B2 E2 k2 enc2 v2 l2) (hne : E ≠ E2)
    (hg : w.grownBy w' v2.ownBlock) : Own w' B E k enc v l := h.kept fun g e => by
  obtain ⟨cur, hc⟩ := h.row e
  exact hg.block g (h.ge e).2 (h2.ne hc (by intro cur' e; injection e with _ e; exact hne e))
theorem Own.upd {α : Type} {w : World} {B E k : Nat} {enc : α → List Value} {v : Value} {l : List α} (h : Own w B E k enc v l) {m : Nat} {es : Array MapEntry} {c : Nat} (hm : hp w m = some (.map es c)) (o : Obj) : Own (upd w m o) B E k enc v l := h.kept fun g e =>
  upd_ne _ _ _ _ (by rintro rfl; exact h.ne hm (by intro cur e; cases e) e.symm)
/-- A step: a key, how far above, whether gone. -/
structure Stp where
  key : Int
  above : Int
  gone : Bool
def encSt (x : Stp) : List Value := [.int .u8 x.key, .int .u8 x.above, .bool x.gone]
def Stp.ok (x : Stp) : Prop := 0 ≤ x.key ∧ x.key ≤ 255 ∧ 0 ≤ x.above ∧ x.above ≤ 255
/-- A found record: where its key's byte lies, too. -/
structure Fd where
  s : Int
  o : Int
  seq : Int
  kind : Int
  k : Nat
  kb : Nat
  kc : Nat
  ps : Int
  po : Int
def encF (f : Fd) : List Value := [.int .u32 f.s, .int .u32 f.o, .int .i64 0, .int .u64 f.seq, .int .i64 f.kind, .slice (some ⟨f.kb, 0, none⟩) 1 f.kc, .slice none 0 0, .int .u32 f.ps, .int .u32 f.po]
theorem encF_ok : Enc 9 encF := ⟨fun _ => rfl, fun x u hu => by simp [encF] at hu; rcases hu with rfl | rfl | rfl | rfl | rfl | rfl | rfl | rfl | rfl <;> rfl, by decide⟩
theorem row40 : RowT 23 40 9 88 := ⟨Try.underlying23, by kernel_rfl⟩
def Fd.loc (f : Fd) : Int × Int := (f.s, f.o)
/-- Those of a key. -/
def ofKey (c : Nat) (fs : List Fd) : List Fd := fs.filter fun f => f.k = c
/-- The last one of a key. -/
def lastOf (c : Nat) (fs : List Fd) : Option Fd := (ofKey c fs).getLast?
def prevOf (c : Nat) (fs : List Fd) : Int × Int := match lastOf c fs with | some f => f.loc | none => (0, 0)
theorem ofKey_snoc (c : Nat) (fs : List Fd) (f : Fd) : ofKey c (fs ++ [f]) = if f.k = c then ofKey c fs ++ [f] else ofKey c fs := by
  unfold ofKey
  rw [List.filter_append]
  by_cases h : f.k = c <;> simp [h]
theorem lastOf_snoc (c : Nat) (fs : List Fd) (f : Fd) : lastOf c (fs ++ [f]) = if f.k = c then some f else lastOf c fs := by
  unfold lastOf
  rw [ofKey_snoc]
  by_cases h : f.k = c <;> simp [h]
/-- Records as they should be, one behind the other. -/
structure Good (fs : List Fd) : Prop where
  at_ : ∀ (i : Nat) (f : Fd), fs[i]? = some f → 97 ≤ f.k ∧ f.k ≤ 104 ∧ (f.kind = 1 ∨ f.kind = 2) ∧ 1 ≤ f.seq ∧ f.seq ≤ 256 * ((i : Int) + 1) ∧ f.s = 1 + (i : Int) / 10 ∧ f.o = 16 + ((i : Int) % 10) * 30 ∧ (f.ps, f.po) = prevOf f.k (fs.take i)
  up : ∀ (i j : Nat) (f g : Fd), fs[i]? = some f → fs[j]? = some g → i < j → f.seq < g.seq
theorem Good.nil : Good [] := ⟨fun i f h => by simp at h, fun i j f g h => by simp at h⟩
theorem Good.snoc {fs : List Fd} (h : Good fs) {f : Fd} (h1 : 97 ≤ f.k ∧ f.k ≤ 104 ∧ (f.kind = 1 ∨ f.kind = 2) ∧ 1 ≤ f.seq ∧ f.seq ≤ 256 * ((fs.length : Int) + 1) ∧ f.s = 1 + (fs.length : Int) / 10 ∧ f.o = 16 + ((fs.length : Int) % 10) * 30 ∧ (f.ps, f.po) = prevOf f.k fs)
    (h2 : ∀ g ∈ fs, g.seq < f.seq) : Good (fs ++ [f]) := by
  have hget : ∀ i g, (fs ++ [f])[i]? = some g → (fs[i]? = some g ∧ i < fs.length) ∨ (i = fs.length ∧ g = f) := by
    intro i g hg
    rw [List.getElem?_append] at hg
    split at hg
    · left; exact ⟨hg, by assumption⟩
    · rename_i hi
      right
      have hi2 : i - fs.length < 1 := by
        have := (List.getElem?_eq_some_iff.1 hg).1
        simpa using this
      have : i = fs.length := by omega
      subst this
      simp at hg
      exact ⟨rfl, hg.symm⟩
  constructor
  · intro i g hg
    rcases hget i g hg with ⟨hg, hi⟩ | ⟨rfl, rfl⟩
    · rw [List.take_append_of_le_length (by omega)]
      exact h.at_ i g hg
    · rw [List.take_append_of_le_length (by omega), List.take_length]
      exact h1
  · intro i j g g' hg hg' hij
    rcases hget i g hg with ⟨hg1, hi⟩ | ⟨hi, hg1⟩
    · rcases hget j g' hg' with ⟨hg2, hj⟩ | ⟨hj, hg2⟩
      · exact h.up i j g g' hg1 hg2 hij
      · rw [hg2]; exact h2 g (List.mem_of_getElem? hg1)
    · rcases hget j g' hg' with ⟨hg2, hj⟩ | ⟨hj, hg2⟩ <;> omega
/-- A record's key's byte. -/
structure KeyAt (w : World) (B : Nat) (f : Fd) : Prop where
  ge : B ≤ f.kb
  bs : Bs w (.slice (some ⟨f.kb, 0, none⟩) 1 f.kc) [f.k]
  row : ∃ cs fr, hp w f.kb = some (.cells cs 5 fr)
theorem KeyAt.keep {w w' : World} {B : Nat} {f : Fd} (h : KeyAt w B f) (k : hp w' f.kb = hp w f.kb) : KeyAt w' B f := by
  refine ⟨h.ge, ?_, ?_⟩
  · obtain ⟨b, o, c, e1, e2, e3⟩ := h.bs
    injection e1 with e1 e4 e5
    injection e1 with e1
    injection e1 with e1 e6 e7
    subst e1; subst e5; subst e6
    exact ⟨_, _, _, rfl, e2, e3.of_hp k⟩
  · obtain ⟨cs, fr, h⟩ := h.row
    exact ⟨cs, fr, k.trans h⟩
theorem KeyAt.aside {β : Type} {w w' : World} {B : Nat} {f : Fd} (h : KeyAt w B f) {B2 E2 k2 : Nat} {enc2 : β → List Value} {v2 : Value} {l2 : List β} (h2 : Own w B2 E2 k2 enc2 v2 l2) (hne : 5 ≠ E2) (hg : w.grownBy w' v2.ownBlock) : KeyAt w' B f := by
  obtain ⟨cs, fr, hr⟩ := h.row
  refine h.keep (hg.block _ (hp_lt hr) (h2.ne hr ?_))
  intro cur e; injection e with _ e; exact hne e
theorem KeyAt.upd {w : World} {B : Nat} {f : Fd} (h : KeyAt w B f) {m : Nat} {es : Array MapEntry} {c : Nat} (hm : hp w m = some (.map es c)) (o : Obj) : KeyAt (upd w m o) B f := by
  obtain ⟨cs, fr, hr⟩ := h.row
  refine h.keep (upd_ne _ _ _ _ ?_)
  intro e; rw [e, hm] at hr; cases hr
theorem KeyAt.bel {w w' : World} {B : Nat} {f : Fd} (h : KeyAt w B f) (k : Bel w w') : KeyAt w' B f := by
  obtain ⟨cs, fr, hr⟩ := id h.row
  exact h.keep (k.block _ (hp_lt hr))
/-- The map of locs by keys. -/
structure ByOk (w : World) (B m : Nat) (mb : List (Int × Value)) (fs : List Fd) : Prop where
  mp : Mp w m ekB id mb
  own : ∀ (c : Int) v, look c mb = some v → ∃ n : Nat, c = n ∧ Own w B 34 2 encL v ((ofKey n fs).map Fd.loc) ∧ ofKey n fs ≠ []
  no : ∀ c : Nat, look (c : Int) mb = none → ofKey c fs = []
  ap : ∀ (c c' : Int) v v' g, c ≠ c' → look c mb = some v → look c' mb = some v' → v.ownBlock = some g → v'.ownBlock ≠ some g
  ge : B ≤ m
theorem ByOk.keep {w w' : World} {B m : Nat} {mb : List (Int × Value)} {fs : List Fd} (h : ByOk w B m mb fs) (hm : hp w' m = hp w m) (hr : ∀ (c : Int) v g, look c mb = some v → v.ownBlock = some g → hp w' g = hp w g) : ByOk w' B m mb fs :=
  ⟨h.mp.keep hm, fun c v hv => let ⟨n, e, h1, h2⟩ := h.own c v hv; ⟨n, e, h1.kept fun g hg => hr c v g hv hg, h2⟩, h.no, h.ap, h.ge⟩
theorem ByOk.bel {w w' : World} {B m : Nat} {mb : List (Int × Value)} {fs : List Fd} (h : ByOk w B m mb fs) (k : Bel w w') : ByOk w' B m mb fs :=
  h.keep (k.block _ h.mp.lt) fun c v g hv hg => by
    obtain ⟨n, _, h1, _⟩ := h.own c v hv
    exact k.block g (h1.ge hg).2
/-- The slice of a key. -/
def slOf (c : Nat) (mb : List (Int × Value)) : Value := (look (c : Int) mb).getD (.slice none 0 0)
theorem ByOk.sl {w : World} {B m : Nat} {mb : List (Int × Value)} {fs : List Fd} (h : ByOk w B m mb fs) (c : Nat) : Own w B 34 2 encL (slOf c mb) ((ofKey c fs).map Fd.loc) := by
  unfold slOf
  cases e : look (c : Int) mb with
  | none => rw [h.no c e]; exact Own.nil _ _ _ _ _
  | some v =>
    obtain ⟨n, e2, h1, _⟩ := h.own c v e
    have : c = n := by omega
    rw [this]; exact h1
theorem ByOk.ne {w : World} {B m : Nat} {mb : List (Int × Value)} {fs : List Fd} (h : ByOk w B m mb fs) {c : Nat} {c' : Int} {v : Value} {g : Nat} (hc : c' ≠ (c : Int)) (hv : look c' mb = some v) (hg : v.ownBlock = some g) : some g ≠ (slOf c mb).ownBlock := by
  intro e
  unfold slOf at e
  cases e2 : look (c : Int) mb with
  | none => rw [e2] at e; cases e
  | some v2 => rw [e2] at e; exact h.ap c' c v v2 g hc hv e2 hg e.symm
theorem ByOk.aside {β : Type} {w w' : World} {B m : Nat} {mb : List (Int × Value)} {fs : List Fd} (h : ByOk w B m mb fs) {B2 E2 k2 : Nat} {enc2 : β → List Value} {v2 : Value} {l2 : List β} (h2 : Own w B2 E2 k2 enc2 v2 l2) (hne : 34 ≠ E2) (hg : w.grownBy w' v2.ownBlock) : ByOk w' B m mb fs := by
  obtain ⟨es, cl, hm, _⟩ := id h.mp
  refine h.keep (hg.block _ (hp_lt hm) (h2.ne hm (by intro cur e; cases e))) fun c v g hv hgv => ?_
  obtain ⟨n, _, h1, _⟩ := h.own c v hv
  obtain ⟨cur, hc⟩ := h1.row hgv
  exact hg.block g (hp_lt hc) (h2.ne hc (by intro cur' e; injection e with _ e; exact hne e))
theorem ByOk.step {w w1 : World} {B m : Nat} {mb : List (Int × Value)} {fs : List Fd} (h : ByOk w B m mb fs) {f : Fd} {v' : Value} (hg : w.grownBy w1 (slOf f.k mb).ownBlock)
    (ho : Own w1 B 34 2 encL v' ((ofKey f.k fs).map Fd.loc ++ [f.loc])) (hb : v'.ownBlock = (slOf f.k mb).ownBlock ∨ v'.ownBlock = some w.heap.size) {o : Obj} (hm : Mp (upd w1 m o) m ekB id (put (f.k : Int) v' mb)) :
    ByOk (upd w1 m o) B m (put (f.k : Int) v' mb) (fs ++ [f]) := by
  obtain ⟨es, cl, hmap, _⟩ := h.mp
  have hml := hp_lt hmap
  have n0 : some m ≠ (slOf f.k mb).ownBlock := (h.sl f.k).ne hmap (by intro cur e; cases e)
  have hm1 : hp w1 m = some (.map es cl) := grown_hp hg hmap n0
  have n1 : some m ≠ v'.ownBlock := ho.ne hm1 (by intro cur e; cases e)
  refine ⟨hm, ?_, ?_, ?_, h.ge⟩
  · intro c v hv
    rw [look_put] at hv
    by_cases hc : c = (f.k : Int)
    · rw [if_pos hc] at hv
      injection hv with hv
      subst hv
      refine ⟨f.k, hc, ?_, by rw [ofKey_snoc, if_pos rfl]; simp⟩
      rw [ofKey_snoc, if_pos rfl, List.map_append]
      exact ho.kept fun g hg => upd_ne _ _ _ _ (by rintro rfl; exact n1 hg.symm)
    · rw [if_neg hc] at hv
      obtain ⟨n, e, h1, h2⟩ := h.own c v hv
      have hfn : f.k ≠ n := fun e2 => hc (by rw [e, e2])
      refine ⟨n, e, ?_, by rw [ofKey_snoc, if_neg hfn]; exact h2⟩
      rw [ofKey_snoc, if_neg hfn]
      refine h1.kept fun g hg' => ?_
      have n2 : some m ≠ v.ownBlock := h1.ne hmap (by intro cur e; cases e)
      rw [upd_ne _ _ _ _ (by rintro rfl; exact n2 hg'.symm)]
      exact hg.block g (h1.ge hg').2 (h.ne hc hv hg')
  · intro c hc
    rw [look_put] at hc
    by_cases he : (c : Int) = (f.k : Int)
    · rw [if_pos he] at hc; cases hc
    · rw [if_neg he] at hc
      rw [ofKey_snoc, if_neg (by omega)]
      exact h.no c hc
  · intro c c' v u g hcc hv hu hgv
    rw [look_put] at hv hu
    have old : ∀ {c : Int} {v : Value} {g : Nat}, c ≠ (f.k : Int) → look c mb = some v → v.ownBlock = some g → v'.ownBlock ≠ some g := by
      intro c v g hc hv hg' e
      obtain ⟨n, _, h1, _⟩ := h.own c v hv
      have hl := (h1.ge hg').2
      rcases hb with hb | hb
      · exact h.ne hc hv hg' (by rw [← hb, e])
      · rw [hb] at e; injection e with e; omega
    by_cases hc : c = (f.k : Int)
    · rw [if_pos hc] at hv
      injection hv with hv
      subst hv
      rw [if_neg (fun e => hcc (hc.trans e.symm))] at hu
      exact fun e => old (fun e => hcc (hc.trans e.symm)) hu e hgv
    · rw [if_neg hc] at hv
      by_cases hc' : c' = (f.k : Int)
      · rw [if_pos hc'] at hu
        injection hu with hu
        subst hu
        exact old hc hv hgv
      · rw [if_neg hc'] at hu
        exact h.ap c c' v u g hcc hv hu hgv
/-- What the loop of rows keeps. -/
structure RowsInv (w0 w : World) (m : Nat) (av : Value) (l : List Stp) (out : Value) (sq : Int) (i : Nat) (fs : List Fd) (mb : List (Int × Value)) : Prop where
  bel : Bel w0 w
  arg : Rd w 3 encSt av l
  len : fs.length = i
  le : i ≤ l.length
  own : Own w w0.heap.size 40 9 encF out fs
  by_ : ByOk w w0.heap.size m mb fs
  good : Good fs
  keys : ∀ f ∈ fs, KeyAt w w0.heap.size f
  sqb : 0 ≤ sq ∧ sq ≤ 256 * (i : Int)
  last : ∀ f ∈ fs, f.seq ≤ sq
theorem s10 {w : World} {av : Value} {l : List Stp} (ha : Rd w 3 encSt av l) (hl : ∀ x ∈ l, x.ok) {R : Value → World → Prop}
    (hR : ∀ w' out m fs mb, Bel w w' → Own w' w.heap.size 40 9 encF out fs → ByOk w' w.heap.size m mb fs → Good fs → (∀ f ∈ fs, KeyAt w' w.heap.size f) → fs.length ≤ 60 → R (.tuple #[out, .map (some m)]) w') : F10 av w R := by
  obtain ⟨aa, ac, rfl⟩ := ha.form
  unfold F10
  refine mkmap ?_
  refine ⟨fun s u => ∃ out seq i fs mb, s = [out, .int .u64 seq, .int .i64 (i : Nat)] ∧ i ≤ 60 ∧ RowsInv w u w.heap.size (.slice aa l.length ac) l out seq i fs mb, fun s _ => (61 - n0 s 2).toNat, ?_, ?_⟩
  · have hb := bx' w [.map #[] 0]
    exact ⟨_, 0, 0, [], [], rfl, by omega, hb, ha.bel hb, rfl, by omega, Own.nil _ _ _ _ _, ⟨Mp.new _ _ _, fun c v h => by simp at h, fun c _ => rfl, fun c c' v v' g _ h => by simp at h, Nat.le_refl _⟩, Good.nil, fun f h => by simp at h, by omega, fun f h => by simp at h⟩
  · rintro s u ⟨out, seq, i, fs, mb, rfl, hi, I⟩
    simp
    have done : R (.tuple #[out, .map (some w.heap.size)]) u := hR u out _ fs mb I.bel I.own I.by_ I.good I.keys (by rw [I.len]; exact hi)
    refine ifD (fun h1 => ?_) (fun _ => done)
    refine ifD (fun h2 => ?_) (fun _ => done)
    obtain ⟨b, off, hab, hat⟩ : ∃ b off, aa = some ⟨b, off, none⟩ ∧ At u b (off + i * 3) (encSt l[i]) := by
      obtain ⟨a', c', he, hx⟩ := I.arg
      injection he with he1 he2 he3
      obtain ⟨b, off, h3, h4⟩ := hx i l[i] (List.getElem?_eq_getElem h1)
      exact ⟨b, off, he1.trans h3, h4⟩
    subst hab
    have hx := hl l[i] (List.getElem_mem h1)
    generalize l[i] = x at hat hx
    obtain ⟨xk, xa, xg⟩ := x
    obtain ⟨x1, x2, x3, x4⟩ := hx
    dsimp only at x1 x2 x3 x4
    have hg : hp u b = hp u b := rfl
    rw [idxR (T := 22) (k := 3) (by kernel_rfl) h1]
    simp [hat.cell, hat.cell0, encSt]
    rw [idxR (T := 22) (k := 3) (by kernel_rfl) h1]
    simp [hat.cell, hat.cell0, encSt]
    obtain ⟨kk, hkk, hk97, hk104⟩ : ∃ kk : Nat, (97 + xk.tmod 8) % 256 = (kk : Int) ∧ 97 ≤ kk ∧ kk ≤ 104 := by
      have : xk.tmod 8 = xk % 8 := Int.tmod_eq_emod_of_nonneg x1
      exact ⟨(97 + xk % 8).toNat, by omega, by omega, by omega⟩
    rw [hkk]
    have hsq : (seq + (1 + xa)) % 18446744073709551616 = seq + (1 + xa) := by
      have := I.sqb
      omega
    rw [hsq]
    have hw1 := bx' u [.cells #[.int .u8 (kk : Int)] 5]
    have hbs : Bs (ext u [.cells #[.int .u8 (kk : Int)] 5]) (.slice (some ⟨u.heap.size, 0, none⟩) 1 1) [kk] := ⟨_, _, _, rfl, by simp, At.of (hp_new u _)⟩
    refine conv_back hbs (by intro x hx; simp at hx; omega) ?_
    have hsz1 := hw1.size
    generalize ext u [.cells #[.int .u8 (kk : Int)] 5] = u1 at hw1 hbs hsz1
    refine c44 (s44 (by intro x hx; simp at hx; omega) fun w1 kb kc h3 hkb hkbs hkrow => ?_)
    have hw1 := bt hw1 h3
    have hkb' : u.heap.size ≤ kb := by omega
    have es : (1 + ((i : Int) % 4294967296).tdiv 10) % 4294967296 = 1 + (i : Int) / 10 := by
      have e0 : (i : Int) % 4294967296 = i := by omega
      rw [e0, Int.tdiv_eq_ediv_of_nonneg (by omega)]
      omega
    have eo : (16 + (i : Int).tmod 10 % 4294967296 * 30) % 4294967296 = 16 + ((i : Int) % 10) * 30 := by
      rw [Int.tmod_eq_emod_of_nonneg (by omega)]
      omega
    simp [es, eo]
    clear es eo hkk hsq
    have hat1 := hat.bel hw1
    refine join_of fun J hJ => ?_
    have key : ∀ kd, (kd = 1 ∨ kd = 2) → J [] (ext w1 [.cells #[.int .u32 (1 + (i : Int) / 10), .int .u32 (16 + (i : Int) % 10 * 30), .int .i64 0, .int .u64 (seq + (1 + xa)), .int .i64 kd, .slice (some ⟨kb, 0, none⟩) 1 kc, .slice none 0 0, .int .u32 0, .int .u32 0] 40]) := by
      intro kd hkd
      refine hJ _ _ ?_
      have hby := I.by_.bel hw1
      refine join_of fun J2 hJ2 => ?_
      have key2 : ∀ ps po, (ps, po) = prevOf kk fs → J2 [] (ext w1 [.cells #[.int .u32 (1 + (i : Int) / 10), .int .u32 (16 + (i : Int) % 10 * 30), .int .i64 0, .int .u64 (seq + (1 + xa)), .int .i64 kd, .slice (some ⟨kb, 0, none⟩) 1 kc, .slice none 0 0, .int .u32 ps, .int .u32 po] 40]) := by
        intro ps po hps
        refine hJ2 _ _ ?_
        have hbyE := hby.bel (bx' w1 [.cells #[.int .u32 (1 + (i : Int) / 10), .int .u32 (16 + (i : Int) % 10 * 30), .int .i64 0, .int .u64 (seq + (1 + xa)), .int .i64 kd, .slice (some ⟨kb, 0, none⟩) 1 kc, .slice none 0 0, .int .u32 ps, .int .u32 po] 40])
        have hrun := run_look (k := (kk : Int)) (z := (.slice none 0 0 : Value)) (E := 47) keyB Try.underlying24 zero_47 hbyE.mp false
        refine getR hrun ?_
        simp only [id, Bool.false_eq_true, if_false]
        rw [show (look (kk : Int) mb).getD (.slice none 0 0) = slOf kk mb from rfl]
        simp [hp_new, -ext_get, -ext_ext, -ext_size]
        have hwE := bx' w1 [.cells #[.int .u32 (1 + (i : Int) / 10), .int .u32 (16 + (i : Int) % 10 * 30), .int .i64 0, .int .u64 (seq + (1 + xa)), .int .i64 kd, .slice (some ⟨kb, 0, none⟩) 1 kc, .slice none 0 0, .int .u32 ps, .int .u32 po] 40]
        have gf := hp_new w1 (.cells #[.int .u32 (1 + (i : Int) / 10), .int .u32 (16 + (i : Int) % 10 * 30), .int .i64 0, .int .u64 (seq + (1 + xa)), .int .i64 kd, .slice (some ⟨kb, 0, none⟩) 1 kc, .slice none 0 0, .int .u32 ps, .int .u32 po] 40)
        have hw2 := bt hw1 hwE
        rw [show (.cells #[.int .u32 (1 + (i : Int) / 10), .int .u32 (16 + (i : Int) % 10 * 30), .int .i64 0, .int .u64 (seq + (1 + xa)), .int .i64 kd, .slice (some ⟨kb, 0, none⟩) 1 kc, .slice none 0 0, .int .u32 ps, .int .u32 po] 40 : Obj) = .cells (encF ⟨1 + (i : Int) / 10, 16 + (i : Int) % 10 * 30, seq + (1 + xa), kd, kk, kb, kc, ps, po⟩).toArray 40 from rfl] at *
        obtain ⟨f, hf⟩ : ∃ f : Fd, f = ⟨1 + (i : Int) / 10, 16 + (i : Int) % 10 * 30, seq + (1 + xa), kd, kk, kb, kc, ps, po⟩ := ⟨_, rfl⟩
        rw [← hf] at gf hwE hw2 hbyE ⊢
        have hfk : f.k = kk := by rw [hf]
        have hlen := I.len
        have hx1 : (fs.length + 1) * 88 ≤ 140737488355328 := by omega
        have hcs7 : ((encF f).toArray).toList = encF f := rfl
        have hsqb := I.sqb
        have hfs : f.seq = seq + (1 + xa) := by rw [hf]
        have e6 : IntKind.i64.wrap ((i : Int) + 1) = ((i + 1 : Nat) : Int) := wrap_i64 (by omega) (by omega)
        have hgood : Good (fs ++ [f]) := by
          refine I.good.snoc ?_ ?_
          · rw [hf, hlen]
            refine ⟨hk97, hk104, hkd, ?_, ?_, rfl, rfl, hps⟩
            · show 1 ≤ seq + (1 + xa); omega
            · show seq + (1 + xa) ≤ 256 * ((i : Int) + 1); omega
          · intro g hg
            have := I.last g hg
            omega
        have hlast' : ∀ g ∈ fs ++ [f], g.seq ≤ seq + (1 + xa) := by
          intro g hg
          rcases List.mem_append.1 hg with hg | hg
          · have := I.last g hg; omega
          · rw [List.mem_singleton.1 hg]; omega
        have hk60 : i + 1 ≤ 60 := by omega
        have hmu : (61 - (i : Int)).toNat > 0 := by omega
        have hlen' : (fs ++ [f]).length = i + 1 := by simp [hlen]
        have hsq' : 0 ≤ seq + (1 + xa) ∧ seq + (1 + xa) ≤ 256 * ((i + 1 : Nat) : Int) := by omega
        have hkey : KeyAt w1 w.heap.size f := by
          rw [hf]
          exact ⟨by have := I.bel.size; show w.heap.size ≤ kb; omega, hkbs, hkrow⟩
        generalize ext w1 [.cells (encF f).toArray 40] = w2 at gf hwE hw2 hbyE ⊢
        have hx3 := bx' w2 [.cells #[.int .u32 (1 + (i : Int) / 10), .int .u32 (16 + (i : Int) % 10 * 30)] 34]
        have gl := hp_new w2 (.cells #[.int .u32 (1 + (i : Int) / 10), .int .u32 (16 + (i : Int) % 10 * 30)] 34)
        have gf := bg hx3 gf
        have hw3 := bt hw2 hx3
        have hbyE := hbyE.bel hx3
        have hwk := bt hwE hx3
        generalize ext w2 [.cells #[.int .u32 (1 + (i : Int) / 10), .int .u32 (16 + (i : Int) % 10 * 30)] 34] = w3 at gf gl hw3 hbyE hwk ⊢
        have hown3 := I.own.bel hw3
        have hkeys3 : ∀ g ∈ fs, KeyAt w3 w.heap.size g := fun g hg => (I.keys g hg).bel hw3
        have hkey3 := hkey.bel hwk
        have hB3 := bt I.bel hw3
        have hsl := hbyE.sl kk
        have hcs : (#[.int .u32 (1 + (i : Int) / 10), .int .u32 (16 + (i : Int) % 10 * 30)] : Array Value).toList = encL f.loc := by rw [hf]; rfl
        have hlk : (ofKey kk fs).length ≤ 60 := Nat.le_trans (List.length_filter_le _ _) (by rw [I.len]; exact hi)
        refine app row34 encL_ok hsl gl hcs (by rw [List.length_map]; omega) (by rw [List.length_map]; simp only [maxLen]; omega) hB3.size fun v' w4 ho4 hg4 hb4 => ?_
        obtain ⟨es4, cl4, hm3, _⟩ := id hbyE.mp
        have hm4 := grown_hp hg4 hm3 (hsl.ne hm3 (by intro cur e; cases e))
        have hown4 := hown3.aside hsl (by decide) hg4
        have hkeys4 : ∀ g ∈ fs, KeyAt w4 w.heap.size g := fun g hg => (hkeys3 g hg).aside hsl (by decide) hg4
        have hkey4 := hkey3.aside hsl (by decide) hg4
        have gf4 := grown_hp hg4 gf (hsl.ne gf (by intro cur e; cases e))
        have hB4 := grown_bel hg4 hB3 fun g hg => (hsl.ge hg).1
        have hmp4 : Mp w4 w.heap.size ekB id mb := hbyE.mp.keep (hg4.block _ (hp_lt hm3) (hsl.ne hm3 (by intro cur e; cases e)))
        refine mupd (k := (kk : Int)) (v := v') (ek := ekB) (ev := id) keyB Try.underlying24 hmp4 ?_
        rintro o5 _ hm5
        have hby5 : ByOk (upd w4 w.heap.size o5) w.heap.size w.heap.size (put (f.k : Int) v' mb) (fs ++ [f]) := by
          subst hfk
          exact hbyE.step hg4 ho4 hb4 hm5
        have hown5 := hown4.upd hm4 o5
        have hkeys5 : ∀ g ∈ fs, KeyAt (upd w4 w.heap.size o5) w.heap.size g := fun g hg => (hkeys4 g hg).upd hm4 o5
        have hkey5 := hkey4.upd hm4 o5
        have gf5 : hp (upd w4 w.heap.size o5) w1.heap.size = some (.cells (encF f).toArray 40) := by
          rw [upd_ne _ _ _ _ (fun e => by rw [e, hm4] at gf4; cases gf4)]; exact gf4
        have hB5 := bu hB4 (Nat.le_refl _) o5
        generalize upd w4 w.heap.size o5 = w5 at hby5 hown5 hkeys5 hkey5 gf5 hB5 ⊢
        rw [gf5]
        simp [encF]
        have hx6 := bx' w5 [.cells (encF f).toArray 40]
        have gx := hp_new w5 (.cells (encF f).toArray 40)
        have hby6 := hby5.bel hx6
        have hown6 := hown5.bel hx6
        have hkeys6 : ∀ g ∈ fs, KeyAt (ext w5 [.cells (encF f).toArray 40]) w.heap.size g := fun g hg => (hkeys5 g hg).bel hx6
        have hkey6 := hkey5.bel hx6
        have hB6 := bt hB5 hx6
        rw [show (.cells #[.int .u32 f.s, .int .u32 f.o, .int .i64 0, .int .u64 f.seq, .int .i64 f.kind, .slice (some ⟨f.kb, 0, none⟩) 1 f.kc, .slice none 0 0, .int .u32 f.ps, .int .u32 f.po] 40 : Obj) = .cells (encF f).toArray 40 from rfl]
        generalize ext w5 [.cells (encF f).toArray 40] = w6 at gx hby6 hown6 hkeys6 hkey6 hB6 ⊢
        have hx2 : fs.length + 1 ≤ maxLen := Nat.le_trans (show fs.length + 1 ≤ 61 by rw [hlen]; exact Nat.succ_le_succ hi) (by decide)
        refine app row40 encF_ok hown6 (x := f) gx hcs7 hx1 hx2 hB6.size fun v'' w7 ho7 hg7 _ => ?_
        have hB7 := grown_bel hg7 hB6 fun g hg => (hown6.ge hg).1
        have hkeys7 : ∀ g ∈ fs ++ [f], KeyAt w7 w.heap.size g := by
          intro g hg
          rcases List.mem_append.1 hg with hg | hg
          · exact (hkeys6 g hg).aside hown6 (by decide) hg7
          · rw [List.mem_singleton.1 hg]; exact hkey6.aside hown6 (by decide) hg7
        have hby7 := hby6.aside hown6 (by decide) hg7
        have hfin : RowsInv w w7 w.heap.size (.slice (some ⟨b, off, none⟩) l.length ac) l v'' (seq + (1 + xa)) (i + 1) (fs ++ [f]) (put (f.k : Int) v' mb) :=
          ⟨hB7, ha.bel hB7, hlen', h1, ho7, hby7, hgood, hkeys7, hsq', hlast'⟩
        refine ⟨⟨v'', _, i + 1, ⟨rfl, rfl, e6⟩, hk60, fs ++ [f], _, hfin⟩, ?_⟩
        rw [e6]
        simp [n0]
        omega
      have hbyE := hby.bel (bx' w1 [.cells #[.int .u32 (1 + (i : Int) / 10), .int .u32 (16 + (i : Int) % 10 * 30), .int .i64 0, .int .u64 (seq + (1 + xa)), .int .i64 kd, .slice (some ⟨kb, 0, none⟩) 1 kc, .slice none 0 0, .int .u32 0, .int .u32 0] 40])
      have hrun := run_look (k := (kk : Int)) (z := (.slice none 0 0 : Value)) (E := 47) keyB Try.underlying24 zero_47 hbyE.mp false
      refine getR hrun ?_
      have hsl := hbyE.sl kk
      have hlast : lastOf kk fs = (ofKey kk fs).getLast? := rfl
      have hslv : (look (kk : Int) mb).getD (.slice none 0 0) = slOf kk mb := rfl
      simp only [id, Bool.false_eq_true, if_false]
      rw [hslv]
      obtain ⟨sa, sc, hsf⟩ := (hsl.rd encL_ok).form
      rw [hsf]
      simp
      refine ifD (fun h5 => ?_) (fun h5 => ?_)
      · refine getR hrun ?_
        simp only [id, Bool.false_eq_true, if_false]
        rw [hslv, hsf]
        have hlen5 : (ofKey kk fs).length ≤ 60 := Nat.le_trans (List.length_filter_le _ _) (by rw [I.len]; exact hi)
        have hlt5 : (ofKey kk fs).length - 1 < (ofKey kk fs).length := by omega
        have hgl : lastOf kk fs = some (ofKey kk fs)[(ofKey kk fs).length - 1] := by
          rw [hlast, List.getLast?_eq_getElem?]
          exact List.getElem?_eq_getElem hlt5
        generalize (ofKey kk fs)[(ofKey kk fs).length - 1] = g at hgl
        have hgi : ((ofKey kk fs).map Fd.loc)[(ofKey kk fs).length - 1]? = some g.loc := by
          rw [hlast, List.getLast?_eq_getElem?] at hgl
          rw [List.getElem?_map, hgl]; rfl
        obtain ⟨b2, o2, c2, ⟨off2, ho2, hv2⟩, hat2⟩ := (hsl.rd encL_ok).at hgi
        rw [hsf] at hv2
        injection hv2 with hv2 _ _
        have e5 : IntKind.i64.wrap (((ofKey kk fs).length : Int) - 1) = (((ofKey kk fs).length - 1 : Nat) : Int) := by rw [wrap_i64 (by omega) (by omega)]; omega
        rw [e5, hv2, List.length_map, idxR (T := 47) (k := 2) (by kernel_rfl) hlt5, ← ho2]
        simp [hat2.cells0, encL, -ext_get]
        have hps : (g.s, g.o) = prevOf kk fs := by unfold prevOf; rw [hgl]; rfl
        simpa [Fd.loc] using key2 g.s g.o hps
      · have h0 : ofKey kk fs = [] := List.eq_nil_of_length_eq_zero (by omega)
        refine key2 0 0 ?_
        unfold prevOf
        rw [hlast, h0]; rfl
    have hatE := fun o => hat1.bel (bx' w1 [o])
    rw [idxR (T := 22) (k := 3) (by kernel_rfl) h1]
    simp [(hatE _).cell, encSt, -ext_get]
    refine ifB (fun _ => key 2 (.inr rfl)) (fun _ => key 1 (.inl rfl))
end Go.Proofs.Ytbcmoikpmmjlkaa
