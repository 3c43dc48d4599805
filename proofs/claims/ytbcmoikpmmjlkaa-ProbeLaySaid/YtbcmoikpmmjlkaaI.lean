/- A range over a map: each entry once, in whatever order. -/
import Derived.Test.YtbcmoikpmmjlkaaN
import Derived.Maps.RangeRun
namespace Go.Proofs.Ytbcmoikpmmjlkaa
open Go Eng
set_option maxRecDepth 100000
/-- A range over a map that holds 'l', those of 'done' behind it. -/
def It {κ ν : Type} (w : World) (r m : Nat) (ek : κ → Value) (ev : ν → Value) (l : List (κ × ν)) (done : List κ) : Prop :=
  ∃ es clock seen, hp w m = some (.map es clock) ∧ hp w r = some (.mapIter (some m) clock seen clock) ∧ Ents ek ev es.toList l ∧ (l.map (·.1)).Nodup ∧ (es.toList.map (·.born)).Nodup ∧ (∀ e ∈ es.toList, e.born < clock) ∧
    (∀ (i : Nat) (e : MapEntry) (p : κ × ν), es.toList[i]? = some e → l[i]? = some p → (seen.contains e.born = true ↔ p.1 ∈ done)) ∧ done.Nodup ∧ (∀ k ∈ done, k ∈ l.map (·.1)) ∧ seen.size = done.length
theorem nodup_le {α : Type} [DecidableEq α] : ∀ (a b : List α), a.Nodup → (∀ x ∈ a, x ∈ b) → a.length ≤ b.length
  | [], _, _, _ => Nat.zero_le _
  | x :: a, b, h, hs => by
    rw [List.nodup_cons] at h
    have hx := hs x List.mem_cons_self
    have := nodup_le a (b.erase x) h.2 fun y hy => (List.mem_erase_of_ne (by rintro rfl; exact h.1 hy)).2 (hs y (List.mem_cons_of_mem _ hy))
    rw [List.length_erase_of_mem hx] at this
    have := List.length_pos_of_mem hx
    rw [List.length_cons]
    omega
/-- How many are behind a range. -/
def seenN (w : World) (r : Nat) : Nat := match hp w r with | some (.mapIter _ _ seen _) => seen.size | _ => 0
theorem It.many {κ ν : Type} [DecidableEq κ] {w : World} {r m : Nat} {ek : κ → Value} {ev : ν → Value} {l : List (κ × ν)} {done : List κ} (h : It w r m ek ev l done) : seenN w r = done.length ∧ done.length ≤ l.length := by
  obtain ⟨es, c, s, h1, h2, h3, h4, h5, h6, h7, h8, h9, h10⟩ := h
  refine ⟨by unfold seenN; rw [h2]; exact h10, ?_⟩
  have := nodup_le _ _ h8 h9
  simpa using this
theorem It.keep {κ ν : Type} {w w' : World} {r m : Nat} {ek : κ → Value} {ev : ν → Value} {l : List (κ × ν)} {done : List κ} (h : It w r m ek ev l done) (hr : hp w' r = hp w r) (hm : hp w' m = hp w m) : It w' r m ek ev l done := by
  obtain ⟨es, c, s, h1, h2, h3⟩ := h
  exact ⟨es, c, s, hm.trans h1, hr.trans h2, h3⟩
theorem rng {κ ν : Type} {M A B : TypeId} (hM : Pg.underlying M = some (.map A B)) {w : World} {m : Nat} {ek : κ → Value} {ev : ν → Value} {l : List (κ × ν)} (h : Mp w m ek ev l) {K : Value → World → Prop}
    (hK : ∀ o, It (ext w [o]) w.heap.size m ek ev l [] → K (.pointer (some ⟨w.heap.size, 0, none⟩)) (ext w [o])) : S Pg (Instr.range M (.map (some m))) w K := by
  obtain ⟨es, c, h1, h2, h3, h4, h5⟩ := h
  refine (S_of (w' := ext w [.mapIter (some m) c #[] c]) ?_).2 (hK _ ⟨es, c, #[], by simp [h1], by simp, h2, h3, h4, h5, by simp, List.nodup_nil, by simp, rfl⟩)
  rw [ext_one]
  have hn : (newObj (.mapIter (some m) c #[] c) : Sem Nat).run Pg w = .ok w.heap.size (w.alloc (.mapIter (some m) c #[] c)) := by simp [go_sem]
  simp [Instr.range, run_und hM, Result.andThen, run_getO h1, hn]
/-- The entry that was stepped to. -/
def Cur {κ ν : Type} (w : World) (r m : Nat) (ek : κ → Value) (ev : ν → Value) (k : κ) (v : ν) : Prop :=
  ∃ (es : Array MapEntry) (clock : Nat) (seen : Array Nat) (e : MapEntry), hp w m = some (.map es clock) ∧ hp w r = some (.mapIter (some m) clock (seen.push e.born) clock) ∧ e ∈ es.toList ∧ e.key = ek k ∧ e.val = ev v ∧ (es.toList.map (·.born)).Nodup
theorem Cur.run {κ ν : Type} {w : World} {r m : Nat} {ek : κ → Value} {ev : ν → Value} {k : κ} {v : ν} (h : Cur w r m ek ev k v) : (Instr.entry (.pointer (some ⟨r, 0, none⟩))).run Pg w = .ok (.tuple #[ek k, ev v]) w := by
  obtain ⟨es, c, s, e, h1, h2, h3, h4, h5, h6⟩ := h
  have := run_entry_at (P := Pg) w r m c s es c e h2 h1 h3 h6
  rwa [h4, h5] at this
theorem upd_setBlock (w : World) (r : Nat) (o : Obj) : ChangeMaps.setBlock w r o = upd w r o := rfl
theorem nodup_get {α : Type} : ∀ {l : List α}, l.Nodup → ∀ {i j : Nat} {a : α}, l[i]? = some a → l[j]? = some a → i = j := by
  intro l h i j a hi hj
  obtain ⟨h1, e1⟩ := List.getElem?_eq_some_iff.1 hi
  obtain ⟨h2, e2⟩ := List.getElem?_eq_some_iff.1 hj
  exact (List.getElem_inj h).1 (e1.trans e2.symm)
theorem nxt {κ ν : Type} [DecidableEq κ] {w : World} {r m ty : Nat} {ek : κ → Value} {ev : ν → Value} {l : List (κ × ν)} {done : List κ} (h : It w r m ek ev l done) {K : Value → World → Prop}
    (hend : (∀ p ∈ l, p.1 ∈ done) → K (.tuple #[.bool false]) w)
    (hstep : ∀ k v w', (k, v) ∈ l → k ∉ done → It w' r m ek ev l (k :: done) → Cur w' r m ek ev k v → Fr (fun b => b = r) w w' → w'.heap.size = w.heap.size → K (.tuple #[.bool true, ek k, ev v]) w') :
    S Pg (Instr.next (.pointer (some ⟨r, 0, none⟩)) false ty) w K := by
  obtain ⟨es, c, seen, h1, h2, h3, h4, h5, h6, h7, h8, h9, h10⟩ := h
  have hlen : es.toList.length = l.length := by
    have := congrArg List.length h3
    simpa using this
  rcases run_next_at (P := Pg) w ty r m c c seen es c h2 h1 h6 (Nat.le_refl _) with ⟨h0, hr⟩ | ⟨e, he, w1, hw1, hr⟩
  · refine (S_of hr).2 (hend fun p hp => ?_)
    obtain ⟨i, hi⟩ := List.getElem?_of_mem hp
    have hil : i < es.toList.length := by rw [hlen]; exact (List.getElem?_eq_some_iff.1 hi).1
    refine (h7 i _ p (List.getElem?_eq_getElem hil) hi).1 ?_
    cases hs : seen.contains es.toList[i].born with
    | true => rfl
    | false =>
      exfalso
      have hmem : es.toList[i] ∈ (leftOf es seen).toList := by
        unfold leftOf
        simp only [Array.toList_filter, List.mem_filter]
        exact ⟨List.getElem_mem hil, by rw [hs]; rfl⟩
      have : (leftOf es seen).toList.length = 0 := by simpa using h0
      rw [List.eq_nil_of_length_eq_zero this] at hmem
      cases hmem
  · have he2 : e ∈ es.toList ∧ seen.contains e.born = false := by
      unfold leftOf at he
      simp only [Array.toList_filter, List.mem_filter] at he
      exact ⟨he.1, by simpa using he.2⟩
    obtain ⟨i, hi⟩ := List.getElem?_of_mem he2.1
    obtain ⟨⟨k, v⟩, hq, hk, hv⟩ := ents_at h3 hi
    rw [upd_setBlock, hk, hv] at hr
    have hlt := hp_lt h2
    have hnd : k ∉ done := fun hd => by
      have := (h7 i e (k, v) hi hq).2 hd
      rw [he2.2] at this; cases this
    have e1 : hp w1 m = hp w m ∧ hp w1 r = hp w r ∧ w1.heap = w.heap := by rcases hw1 with rfl | rfl <;> exact ⟨rfl, rfl, rfl⟩
    have hmr : m ≠ r := by intro e; rw [e, h2] at h1; cases h1
    have g1 : hp (upd w1 r (.mapIter (some m) c (seen.push e.born) c)) m = some (.map es c) := by rw [upd_ne _ _ _ _ hmr, e1.1, h1]
    have g2 : hp (upd w1 r (.mapIter (some m) c (seen.push e.born) c)) r = some (.mapIter (some m) c (seen.push e.born) c) := by rw [upd_same, e1.2.1, h2]; rfl
    refine (S_of hr).2 (hstep k v _ (List.mem_of_getElem? hq) hnd ⟨es, c, seen.push e.born, g1, g2, h3, h4, h5, h6, ?_, List.nodup_cons.2 ⟨hnd, h8⟩, ?_, by simp [h10]⟩ ⟨es, c, seen, e, g1, g2, he2.1, hk, hv, h5⟩ ?_ ?_)
    · intro j e' p' hj hp'
      rw [Array.contains_push]
      have hb : (e'.born == e.born) = true ↔ i = j := by
        rw [beq_iff_eq]
        constructor
        · intro eb
          exact nodup_get h5 (a := e.born) (by rw [List.getElem?_map, hi]; rfl) (by rw [List.getElem?_map, hj, ← eb]; rfl)
        · rintro rfl
          rw [hi] at hj; injection hj with hj; rw [hj]
      have hkk : p'.1 = k ↔ i = j := by
        constructor
        · intro ek'
          exact nodup_get h4 (a := k) (by rw [List.getElem?_map, hq]; rfl) (by rw [List.getElem?_map, hp', ← ek']; rfl)
        · rintro rfl
          rw [hq] at hp'; injection hp' with hp'; rw [← hp']
      rw [Bool.or_eq_true, h7 j e' p' hj hp', List.mem_cons, hkk, hb]
      exact Or.comm
    · intro k' hk'
      rcases List.mem_cons.1 hk' with rfl | hk'
      · exact List.mem_map.2 ⟨_, List.mem_of_getElem? hq, rfl⟩
      · exact h9 k' hk'
    · rcases hw1 with rfl | rfl
      · exact Fr.upd (b := r) (Fr.refl (fun b => b = r) _) (.inl rfl) _
      · exact Fr.upd (b := r) (Fr.refl (fun b => b = r) w).drew (.inl rfl) _
    · rw [upd_size, e1.2.2]
theorem It.bel {κ ν : Type} {w w' : World} {r m : Nat} {ek : κ → Value} {ev : ν → Value} {l : List (κ × ν)} {done : List κ} (h : It w r m ek ev l done) (k : Bel w w') : It w' r m ek ev l done := by
  obtain ⟨es, c, s, h1, h2, h3⟩ := h
  exact ⟨es, c, s, bg k h1, bg k h2, h3⟩
/-! ### A map of rows -/
set_option linter.unusedSectionVars false
section
variable {κ α : Type} [DecidableEq κ]
/-- A map whose values are slices of the call's own: those of each key. -/
structure GB (w : World) (B m E k : Nat) (ek : κ → Value) (enc : α → List Value) (mb : List (κ × Value)) (rows : κ → List α) : Prop where
  mp : Mp w m ek id mb
  own : ∀ c v, look c mb = some v → Own w B E k enc v (rows c) ∧ rows c ≠ []
  no : ∀ c, look c mb = none → rows c = []
  ap : ∀ c c' v v' g, c ≠ c' → look c mb = some v → look c' mb = some v' → v.ownBlock = some g → v'.ownBlock ≠ some g
  ge : B ≤ m
variable {w w1 : World} {B m E k : Nat} {ek : κ → Value} {enc : α → List Value} {mb : List (κ × Value)} {rows : κ → List α}
theorem GB.keep {w' : World} (h : GB w B m E k ek enc mb rows) (hm : hp w' m = hp w m) (hr : ∀ c v g, look c mb = some v → v.ownBlock = some g → hp w' g = hp w g) : GB w' B m E k ek enc mb rows :=
  ⟨h.mp.keep hm, fun c v hv => let ⟨h1, h2⟩ := h.own c v hv; ⟨h1.kept fun g hg => hr c v g hv hg, h2⟩, h.no, h.ap, h.ge⟩
theorem GB.bel {w' : World} (h : GB w B m E k ek enc mb rows) (kb : Bel w w') : GB w' B m E k ek enc mb rows :=
  h.keep (kb.block _ h.mp.lt) fun c v g hv hg => kb.block g ((h.own c v hv).1.ge hg).2
/-- The slice of a key. -/
def gsl (c : κ) (mb : List (κ × Value)) : Value := (look c mb).getD (.slice none 0 0)
theorem GB.sl (h : GB w B m E k ek enc mb rows) (c : κ) : Own w B E k enc (gsl c mb) (rows c) := by
  unfold gsl
  cases e : look c mb with
  | none => rw [h.no c e]; exact Own.nil _ _ _ _ _
  | some v => exact (h.own c v e).1
theorem GB.ne (h : GB w B m E k ek enc mb rows) {c c' : κ} {v : Value} {g : Nat} (hc : c' ≠ c) (hv : look c' mb = some v) (hg : v.ownBlock = some g) : some g ≠ (gsl c mb).ownBlock := by
  intro e
  unfold gsl at e
  cases e2 : look c mb with
  | none => rw [e2] at e; cases e
  | some v2 => rw [e2] at e; exact h.ap c' c v v2 g hc hv e2 hg e.symm
/-- The map's block, and the rows'. -/
def GB.foot (_ : GB w B m E k ek enc mb rows) (b : Nat) : Prop := b = m ∨ ∃ c v, look c mb = some v ∧ v.ownBlock = some b
theorem GB.fr {F : Nat → Prop} {w' : World} (h : GB w B m E k ek enc mb rows) (f : Fr F w w') (hn : ¬ F m) (hr : ∀ g cur, hp w g = some (.cells cur E (0, 0)) → ¬ F g) : GB w' B m E k ek enc mb rows :=
  h.keep (f.block _ h.mp.lt hn) fun c v g hv hg => by
    have ho := (h.own c v hv).1
    obtain ⟨h0, h1 | ⟨g', cap, cur, rfl, hB, hg', _⟩⟩ := id ho
    · rw [h1.1] at hg; cases hg
    · injection hg with hg
      subst hg
      exact f.block _ (ho.ge rfl).2 (hr _ _ hg')
theorem GB.step (h : GB w B m E k ek enc mb rows) {c : κ} {x : α} {v' : Value} (hg : w.grownBy w1 (gsl c mb).ownBlock)
    (ho : Own w1 B E k enc v' (rows c ++ [x])) (hb : v'.ownBlock = (gsl c mb).ownBlock ∨ v'.ownBlock = some w.heap.size) {o : Obj} (hm : Mp (upd w1 m o) m ek id (put c v' mb)) :
    GB (upd w1 m o) B m E k ek enc (put c v' mb) (fun d => if d = c then rows d ++ [x] else rows d) := by
  obtain ⟨es, cl, hmap, _⟩ := h.mp
  have hml := hp_lt hmap
  have n0 : some m ≠ (gsl c mb).ownBlock := (h.sl c).ne hmap (by intro cur e; cases e)
  have hm1 : hp w1 m = some (.map es cl) := grown_hp hg hmap n0
  have n1 : some m ≠ v'.ownBlock := ho.ne hm1 (by intro cur e; cases e)
  refine ⟨hm, ?_, ?_, ?_, h.ge⟩
  · intro d v hv
    rw [look_put] at hv
    by_cases hc : d = c
    · rw [if_pos hc] at hv
      injection hv with hv
      subst hv
      subst hc
      simp only [if_true]
      exact ⟨ho.kept fun g hg => upd_ne _ _ _ _ (by rintro rfl; exact n1 hg.symm), by simp⟩
    · rw [if_neg hc] at hv
      obtain ⟨h1, h2⟩ := h.own d v hv
      simp only [hc, if_false]
      refine ⟨h1.kept fun g hg' => ?_, h2⟩
      have n2 : some m ≠ v.ownBlock := h1.ne hmap (by intro cur e; cases e)
      rw [upd_ne _ _ _ _ (by rintro rfl; exact n2 hg'.symm)]
      exact hg.block g (h1.ge hg').2 (h.ne hc hv hg')
  · intro d hd
    rw [look_put] at hd
    by_cases he : d = c
    · rw [if_pos he] at hd; cases hd
    · rw [if_neg he] at hd
      simp only [he, if_false]
      exact h.no d hd
  · intro d d' v u g hcc hv hu hgv
    rw [look_put] at hv hu
    have old : ∀ {d : κ} {v : Value} {g : Nat}, d ≠ c → look d mb = some v → v.ownBlock = some g → v'.ownBlock ≠ some g := by
      intro d v g hc hv hg' e
      have hl := ((h.own d v hv).1.ge hg').2
      rcases hb with hb | hb
      · exact h.ne hc hv hg' (by rw [← hb, e])
      · rw [hb] at e; injection e with e; omega
    by_cases hc : d = c
    · rw [if_pos hc] at hv
      injection hv with hv
      subst hv
      rw [if_neg (fun e => hcc (hc.trans e.symm))] at hu
      exact fun e => old (fun e => hcc (hc.trans e.symm)) hu e hgv
    · rw [if_neg hc] at hv
      by_cases hc' : d' = c
      · rw [if_pos hc'] at hu
        injection hu with hu
        subst hu
        exact old hc hv hgv
      · rw [if_neg hc'] at hu
        exact h.ap d d' v u g hcc hv hu hgv
theorem GB.new (w : World) (E k : Nat) (ek : κ → Value) (enc : α → List Value) {B : Nat} (hB : B ≤ w.heap.size) : GB (ext w [.map #[] 0]) B w.heap.size E k ek enc [] (fun _ => []) :=
  ⟨Mp.new _ _ _, fun c v h => by simp at h, fun c _ => rfl, fun c c' v v' g _ h => by simp at h, hB⟩
end
end Go.Proofs.Ytbcmoikpmmjlkaa
