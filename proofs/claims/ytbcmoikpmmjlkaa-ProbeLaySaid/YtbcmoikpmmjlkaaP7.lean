/- Plans: what plan.Of computes. -/
import Derived.Test.YtbcmoikpmmjlkaaP6
namespace Go.Proofs.Ytbcmoikpmmjlkaa
open Go Eng
set_option maxRecDepth 100000
/-- What is laid of the first 'k' items. -/
def layTo (its : List Itm) (at_ : List Int) (limit first : Int) : Nat → PS
  | 0 => ⟨[], [], []⟩
  | k + 1 => if keptB its at_ k then layP limit first (layTo its at_ limit first k) k (its.getD k default) else layTo its at_ limit first k
def outP (limit first : Int) : Bool := decide (limit < 4096 ∨ 16777216 < limit ∨ first < 1 ∨ 16777215 < first)
def fullP (s : PS) : Bool := decide (200 < s.seals.length) || (match s.seals.getLast? with | some l => decide (16777215 ≤ l.id) | none => false)
/-- A plan. -/
def planOf (its : List Itm) (at_ : List Int) (limit first : Int) : List Sp × List Sl × Int :=
  if mayI 0 its = false ∨ outP limit first = true then ([], [], 1)
  else if fullP (layTo its at_ limit first its.length) = true then ([], [], 7)
  else ((layTo its at_ limit first its.length).steps, (layTo its at_ limit first its.length).seals, 0)
theorem layTo_ok {its : List Itm} (hm : MayP its) (at_ : List Int) {limit first : Int} (hli : limit ≤ 16777216) : ∀ k, k ≤ its.length → ∃ n, n ≤ k ∧ PSok n first (layTo its at_ limit first k)
  | 0, _ => ⟨0, by omega, ⟨Nat.le_refl _, rfl, fun l h => by simp [layTo] at h⟩⟩
  | k + 1, hk => by
    obtain ⟨n, hn, ih⟩ := layTo_ok hm at_ hli k (by omega)
    unfold layTo
    split
    · exact ⟨n + 1, by omega, ih.lay (hm.size k (by omega)) hli⟩
    · exact ⟨n, by omega, ih⟩
/-- plan.Of. -/
theorem s21 {w : World} {v av : Value} {ims : List Im} {at_ : List Int} {limit first : Int} (h : Items w v ims) (ha : Rd w 1 encU av at_) (hl : ims.length ≤ 100000) (hl2 : at_.length ≤ 100000) {R : Value → World → Prop}
    (hR : ∀ w' sv lv, Bel w w' → Rd w' 5 encSp sv (planOf (ims.map Im.it) at_ limit first).1 → Rd w' 5 encSl lv (planOf (ims.map Im.it) at_ limit first).2.1 → R (.tuple #[.agg #[sv, lv], .int .i64 (planOf (ims.map Im.it) at_ limit first).2.2]) w') :
    F21 v av (.int .i64 limit) (.int .u32 first) w R := by
  obtain ⟨va, vc, rfl⟩ := h.rd.form
  unfold F21
  simp
  have hx := bx' w [.cells #[.slice va ims.length vc] 63, .cells #[.int .i64 limit] 3, .cells #[.int .u32 first] 32, .cells #[.slice none 0 0, .slice none 0 0] 70]
  have c0 := hp_ext_at (w := w) (L := [.cells #[.slice va ims.length vc] 63, .cells #[.int .i64 limit] 3, .cells #[.int .u32 first] 32, .cells #[.slice none 0 0, .slice none 0 0] 70]) (i := 0) rfl
  have c1 := hp_ext_at (w := w) (L := [.cells #[.slice va ims.length vc] 63, .cells #[.int .i64 limit] 3, .cells #[.int .u32 first] 32, .cells #[.slice none 0 0, .slice none 0 0] 70]) (i := 1) rfl
  have c2 := hp_ext_at (w := w) (L := [.cells #[.slice va ims.length vc] 63, .cells #[.int .i64 limit] 3, .cells #[.int .u32 first] 32, .cells #[.slice none 0 0, .slice none 0 0] 70]) (i := 2) rfl
  have c3 := hp_ext_at (w := w) (L := [.cells #[.slice va ims.length vc] 63, .cells #[.int .i64 limit] 3, .cells #[.int .u32 first] 32, .cells #[.slice none 0 0, .slice none 0 0] 70]) (i := 3) rfl
  rw [Nat.add_zero] at c0
  generalize ext w [.cells #[.slice va ims.length vc] 63, .cells #[.int .i64 limit] 3, .cells #[.int .u32 first] 32, .cells #[.slice none 0 0, .slice none 0 0] 70] = u at hx c0 c1 c2 c3 ⊢
  refine c24 (s24 (h.rd.bel hx) (by omega) fun u1 b1 => ?_)
  have hx1 := bt hx b1
  have c0 := bg b1 c0
  have c1 := bg b1 c1
  have c2 := bg b1 c2
  have c3 := bg b1 c3
  have nil5 : ∀ {α : Type} {enc : α → List Value} (x : World), Rd x 5 enc (.slice none 0 0) ([] : List α) := fun x => ⟨none, 0, rfl, fun i x hx => by simp at hx⟩
  have err : ∀ x e, Bel w x → planOf (ims.map Im.it) at_ limit first = ([], [], e) → R (.tuple #[.agg #[.slice none 0 0, .slice none 0 0], .int .i64 e]) x := fun x e hb he => by
    have := hR x (.slice none 0 0) (.slice none 0 0) hb
    rw [he] at this
    exact this (nil5 x) (nil5 x)
  simp [c1, c2, c3]
  generalize hr8 : w.heap.size + 1 + 1 + 1 = r8 at c3 ⊢
  have hle8 : w.heap.size ≤ r8 := by omega
  have hfin : ∀ y sv lv e, hp y r8 = some (.cells #[sv, lv] 70) → R (.tuple #[.agg #[sv, lv], e]) y → readW Pg (Instr.loadAt 70 (.pointer (some ⟨r8, 0, none⟩))) y fun r0 => R (.tuple #[r0, e]) y := fun y sv lv e hy hr => readW_of (by simp [hy]; exact hr)
  have err1 : (mayI 0 (ims.map Im.it) = false ∨ outP limit first = true) → readW Pg (Instr.loadAt 70 (.pointer (some ⟨r8, 0, none⟩))) (upd u1 r8 (.cells #[.slice none 0 0, .slice none 0 0] 70)) fun r0 => R (.tuple #[r0, .int .i64 1]) (upd u1 r8 (.cells #[.slice none 0 0, .slice none 0 0] 70)) := fun hc =>
    hfin _ _ _ _ (by simp [c3]) (err _ 1 (bu hx1 hle8 _) (by unfold planOf; rw [if_pos hc]))
  refine ifB (fun h1 => err1 (.inl (by simpa using h1))) (fun h1 => ?_)
  refine ifD (fun h2 => err1 (.inr (decide_eq_true (.inl h2)))) (fun h2 => ?_)
  refine ifD (fun h3 => err1 (.inr (decide_eq_true (.inr (.inl h3))))) (fun h3 => ?_)
  refine ifD (fun h4 => err1 (.inr (decide_eq_true (.inr (.inr (.inl h4)))))) (fun h4 => ?_)
  refine ifD (fun h5 => err1 (.inr (decide_eq_true (.inr (.inr (.inr h5)))))) (fun h5 => ?_)
  have h1 : mayI 0 (ims.map Im.it) = true := by simpa using h1
  have hmp := mayP_of (Int.le_refl 0) h1
  have hplan : planOf (ims.map Im.it) at_ limit first = if fullP (layTo (ims.map Im.it) at_ limit first ims.length) = true then ([], [], 7) else ((layTo (ims.map Im.it) at_ limit first ims.length).steps, (layTo (ims.map Im.it) at_ limit first ims.length).seals, 0) := by
    unfold planOf
    rw [if_neg (by rw [h1]; simp [outP]; omega), List.length_map]
  clear err1
  refine mkmap ?_
  have l0 := hp_lt c0
  have l8 := hp_lt c3
  simp [c0]
  have hq := hp_ext_at (w := u1) (L := [.cells #[.slice none 0 0, .slice none 0 0] 70, .map #[] 0, .cells #[.map (some (u1.heap.size + 1))] 147]) (i := 0) rfl
  have hmpp := hp_ext_at (w := u1) (L := [.cells #[.slice none 0 0, .slice none 0 0] 70, .map #[] 0, .cells #[.map (some (u1.heap.size + 1))] 147]) (i := 1) rfl
  have hta := hp_ext_at (w := u1) (L := [.cells #[.slice none 0 0, .slice none 0 0] 70, .map #[] 0, .cells #[.map (some (u1.heap.size + 1))] 147]) (i := 2) rfl
  rw [Nat.add_zero] at hq
  have hxx := bx' u1 [.cells #[.slice none 0 0, .slice none 0 0] 70, .map #[] 0, .cells #[.map (some (u1.heap.size + 1))] 147]
  generalize ext u1 [.cells #[.slice none 0 0, .slice none 0 0] 70, .map #[] 0, .cells #[.map (some (u1.heap.size + 1))] 147] = u2 at hq hmpp hta hxx ⊢
  have hx2 := bt hx1 hxx
  have c0 := bg hxx c0
  have c1 := bg hxx c1
  have c2 := bg hxx c2
  have c3 := bg hxx c3
  have hsz1 := hx1.size
  have hne8 : r8 ≠ u1.heap.size := by omega
  rw [show u1.heap.size + 2 = u1.heap.size + 1 + 1 from rfl] at hta
  clear hxx
  generalize hqq : u1.heap.size = q at hq hmpp hta hsz1 hne8 ⊢
  have hM : PlM u2 w.heap.size q (q + 1) (.slice none 0 0) (.slice none 0 0) ⟨[], [], []⟩ := ⟨hq, Own.nil _ _ _ _ _, Own.nil _ _ _ _ _, ⟨#[], 0, hmpp, rfl, List.nodup_nil, List.nodup_nil, by simp⟩, by omega, by omega⟩
  refine c59 (s59 (h.bel hx2) (ha.bel hx2) hl hl2 h1 fun u3 g b3 hg hbl => ?_)
  simp
  have hx3 := bt hx2 b3
  have c0 := bg b3 c0
  have c1 := bg b3 c1
  have c2 := bg b3 c2
  have c3 := bg b3 c3
  have hta := bg b3 hta
  have hM3 := hM.bel b3
  refine ⟨fun s y => ∃ (k : Nat) (sv lv : Value), s = [.int .i64 (k : Nat)] ∧ k ≤ ims.length ∧ Bel w y ∧ TF q u3 y ∧ PlM y w.heap.size q (q + 1) sv lv (layTo (ims.map Im.it) at_ limit first k), fun s _ => (ims.length + 1 - n0 s 0).toNat, ⟨0, _, _, rfl, by omega, hx3, TF.refl _ _, hM3⟩, ?_⟩
  rintro s y ⟨k, sv, lv, rfl, hk, hby, htf, hMy⟩
  obtain ⟨n, hn, hok⟩ := layTo_ok (first := first) hmp at_ (limit := limit) (by omega) k (by simpa using hk)
  simp
  refine ifD (fun h6 => ?_) (fun h6 => ?_)
  · have hbly : Bl y g (keptI (ims.map Im.it) at_) := htf.keep _ _ hbl (by simp [otherT])
    have hkl := keptI_length (ims.map Im.it) at_
    rw [List.length_map] at hkl
    rw [idxR (T := 142) (k := 1) (by kernel_rfl) h6, Nat.mul_one, Nat.zero_add, hbly.get (i := k) (by omega), getO_some]
    have hkb : (keptI (ims.map Im.it) at_)[k]'(by omega) = keptB (ims.map Im.it) at_ k := by simp [keptI]
    rw [hkb]
    have e6 : IntKind.i64.wrap ((k : Int) + 1) = ((k + 1 : Nat) : Int) := i64_succ (by omega)
    rw [e6]
    have hlay : layTo (ims.map Im.it) at_ limit first (k + 1) = if keptB (ims.map Im.it) at_ k then layP limit first (layTo (ims.map Im.it) at_ limit first k) k ((ims.map Im.it).getD k default) else layTo (ims.map Im.it) at_ limit first k := rfl
    refine ifB (fun h7 => ?_) (fun h7 => ?_)
    · have hget := List.getElem?_eq_getElem h6
      have hits := its_at hget
      have hkk := hmp.key k (by simpa using h6)
      have hks := hmp.size k (by simpa using h6)
      rw [hits] at hkk hks hlay
      rw [h7, if_pos rfl] at hlay
      refine c58 (s58 (w0 := w) hby h (htf.keep _ _ c0 (by simp [otherT])) (htf.keep _ _ c1 (by simp [otherT])) (htf.keep _ _ c2 (by simp [otherT])) (htf.keep _ _ hta (by simp [otherT])) hMy hok (by omega) ⟨by omega, by omega⟩ ⟨by omega, by omega⟩ hget hkk hks fun y' sv' lv' hb' ht' hM' => ?_)
      rw [← hlay] at hM'
      exact ⟨⟨k + 1, rfl, h6, hb', htf.trans ht', _, _, hM'⟩, by simp [n0]; omega⟩
    · rw [h7] at hlay
      exact ⟨⟨k + 1, rfl, h6, hby, htf, sv, lv, by rw [hlay]; exact hMy⟩, by simp [n0]; omega⟩
  · obtain rfl : k = ims.length := by omega
    have c3 := htf.keep2 _ _ c3 hne8 (by simp [otherU])
    generalize layTo (ims.map Im.it) at_ limit first ims.length = ps at hMy hplan hok
    have hslr := hMy.sl.rd encSl_ok
    have hstr := hMy.st.rd encSp_ok
    obtain ⟨la, lc, rfl⟩ := hslr.form
    obtain ⟨sa, sc, rfl⟩ := hstr.form
    have hlen := hok.len
    simp [hMy.cell, c3]
    have full : fullP ps = true → readW Pg (Instr.loadAt 70 (.pointer (some ⟨r8, 0, none⟩))) (upd y r8 (.cells #[.slice none 0 0, .slice none 0 0] 70)) fun r0 => R (.tuple #[r0, .int .i64 7]) (upd y r8 (.cells #[.slice none 0 0, .slice none 0 0] 70)) := fun hf =>
      hfin _ _ _ _ (by simp [c3]) (err _ 7 (bu hby hle8 _) (by rw [hplan, if_pos hf]))
    have good : fullP ps = false → readW Pg (Instr.loadAt 70 (.pointer (some ⟨r8, 0, none⟩))) (upd y r8 (.cells #[.slice sa ps.steps.length sc, .slice la ps.seals.length lc] 70)) fun r0 => R (.tuple #[r0, .int .i64 0]) (upd y r8 (.cells #[.slice sa ps.steps.length sc, .slice la ps.seals.length lc] 70)) := fun hf => by
      refine hfin _ (.slice sa ps.steps.length sc) (.slice la ps.seals.length lc) _ (by simp [c3]) ?_
      have hF : Fr (fun b => b = r8) y (upd y r8 (.cells #[.slice sa ps.steps.length sc, .slice la ps.seals.length lc] 70)) := Fr.upd (b := r8) (Fr.refl (fun b => b = r8) y) (.inl rfl) _
      have hkeep : ∀ {α : Type} {B E k : Nat} {enc : α → List Value} {v : Value} {l : List α}, Own y B E k enc v l → E ≠ 70 → Own (upd y r8 (.cells #[.slice sa ps.steps.length sc, .slice la ps.seals.length lc] 70)) B E k enc v l := fun ho hE => ho.kept fun b hb => upd_ne _ _ _ _ (by
        rintro rfl
        obtain ⟨cur, hc⟩ := ho.row hb
        rw [c3] at hc; injection hc with hc; injection hc with _ hc; exact hE hc.symm)
      have := hR (upd y r8 (.cells #[.slice sa ps.steps.length sc, .slice la ps.seals.length lc] 70)) (.slice sa ps.steps.length sc) (.slice la ps.seals.length lc) (bu hby hle8 _)
      rw [hplan, if_neg (by rw [hf]; decide)] at this
      exact this ((hkeep hMy.st (by decide)).rd encSp_ok) ((hkeep hMy.sl (by decide)).rd encSl_ok)
    refine ifD (fun h7 => full ?_) (fun h7 => ?_)
    · unfold fullP; rw [decide_eq_true (by omega), Bool.true_or]
    refine ifD (fun h8 => ?_) (fun h8 => ?_)
    · have hne : ps.seals ≠ [] := by intro e; rw [e] at h8; simp at h8
      have hgl := List.getLast?_eq_some_getLast hne
      have hget : ps.seals[ps.seals.length - 1]? = some (ps.seals.getLast hne) := by rw [← List.getLast?_eq_getElem?]; exact hgl
      have e2 : IntKind.i64.wrap ((ps.seals.length : Int) - 1) = ((ps.seals.length - 1 : Nat) : Int) := by rw [wrap_i64 (by omega) (by omega)]; omega
      obtain ⟨b2, o2, c4, ⟨off2, ho2, hsl2⟩, hat2⟩ := hslr.at hget
      injection hsl2 with hsl2 _ _
      subst hsl2
      rw [e2, idxR (T := 68) (k := 5) (by kernel_rfl) (by omega), ← ho2]
      simp [hat2.cell0, encSl]
      refine ifD (fun h9 => full ?_) (fun h9 => good ?_)
      · unfold fullP; rw [hgl]; simp [h9]
      · unfold fullP; rw [hgl]; simp [h9]; omega
    · have hne : ps.seals = [] := List.eq_nil_of_length_eq_zero (by omega)
      refine good ?_
      unfold fullP; rw [hne]; rfl
end Go.Proofs.Ytbcmoikpmmjlkaa
