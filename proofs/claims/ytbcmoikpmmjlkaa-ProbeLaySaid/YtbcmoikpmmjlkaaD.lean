/- Laws of numbers, rows of cells, slices of the call's own, and maps, for contracts. -/
import Derived.Test.YtbcmoikpmmjlkaaM
import Derived.Laws.AppendOwn
import Derived.Lib.ConvBytes
import Derived.Maps.AppendAt
namespace Go.Proofs.Ytbcmoikpmmjlkaa
open Go Eng
set_option maxRecDepth 100000

/-! ### Numbers -/
@[simp] theorem wrap_u8 (n : Int) : IntKind.u8.wrap n = n % 256 := by simp [IntKind.wrap, IntKind.bits, IntKind.signed]
@[simp] theorem wrap_u16 (n : Int) : IntKind.u16.wrap n = n % 65536 := by simp [IntKind.wrap, IntKind.bits, IntKind.signed]
@[simp] theorem wrap_u32 (n : Int) : IntKind.u32.wrap n = n % 4294967296 := by simp [IntKind.wrap, IntKind.bits, IntKind.signed]
@[simp] theorem wrap_u64 (n : Int) : IntKind.u64.wrap n = n % 18446744073709551616 := by simp [IntKind.wrap, IntKind.bits, IntKind.signed]
theorem wrap_i64 {n : Int} (h1 : -9223372036854775808 ≤ n) (h2 : n ≤ 9223372036854775807) : IntKind.i64.wrap n = n := by
  simp only [IntKind.wrap, IntKind.bits, IntKind.signed]
  simp
  split <;> omega
theorem i64_nat {n : Nat} (h : n ≤ 9223372036854775807) : IntKind.i64.wrap (n : Int) = n := wrap_i64 (by omega) (by omega)
theorem i64_succ {n : Nat} (h : n < 9223372036854775807) : IntKind.i64.wrap ((n : Int) + 1) = ((n + 1 : Nat) : Int) := by rw [wrap_i64 (by omega) (by omega)]; rfl
section
variable (P : Program) (T : TypeId) (k : IntKind) (a b : Int) (K : Value → Prop)
theorem pure_quo (h : b ≠ 0) : pureP P (binS .quo T (.int k a) (.int k b)) K ↔ K (.int k (k.wrap (a.tdiv b))) := pureP_of fun w => by simp [binS, binOp, Op.intDiv, h]
theorem pure_rem (h : b ≠ 0) : pureP P (binS .rem T (.int k a) (.int k b)) K ↔ K (.int k (a.tmod b)) := pureP_of fun w => by simp [binS, binOp, Op.intDiv, h]
@[simp] theorem pure_rem8 : pureP P (binS .rem T (.int k a) (.int k 8)) K ↔ K (.int k (a.tmod 8)) := pure_rem _ _ _ _ _ _ (by decide)
@[simp] theorem pure_rem10 : pureP P (binS .rem T (.int k a) (.int k 10)) K ↔ K (.int k (a.tmod 10)) := pure_rem _ _ _ _ _ _ (by decide)
@[simp] theorem pure_quo10 : pureP P (binS .quo T (.int k a) (.int k 10)) K ↔ K (.int k (k.wrap (a.tdiv 10))) := pure_quo _ _ _ _ _ _ (by decide)
@[simp] theorem pure_quo8 : pureP P (binS .quo T (.int k a) (.int k 8)) K ↔ K (.int k (k.wrap (a.tdiv 8))) := pure_quo _ _ _ _ _ _ (by decide)
end

/-! ### Cells that read as they should -/
def At (w : World) (b o : Nat) (xs : List Value) : Prop := ∃ cs E fr, hp w b = some (.cells cs E fr) ∧ ∀ j y, xs[j]? = some y → cs[o + j]? = some y
theorem At.lt {w : World} {b o : Nat} {xs : List Value} (h : At w b o xs) : b < w.heap.size := let ⟨_, _, _, h, _⟩ := h; hp_lt h
theorem At.of_hp {w w' : World} {b o : Nat} {xs : List Value} (h : At w b o xs) (e : hp w' b = hp w b) : At w' b o xs := let ⟨cs, E, fr, h1, h2⟩ := h; ⟨cs, E, fr, e.trans h1, h2⟩
theorem At.bel {w w' : World} {b o : Nat} {xs : List Value} (h : At w b o xs) (k : Bel w w') : At w' b o xs := h.of_hp (k.block b h.lt)
theorem At.of {w : World} {b : Nat} {cs : Array Value} {E : TypeId} {fr : Nat × Nat} (h : hp w b = some (.cells cs E fr)) : At w b 0 cs.toList := ⟨cs, E, fr, h, fun j y hy => by simpa using hy⟩
theorem At.cell {w : World} {b o : Nat} {xs : List Value} (h : At w b o xs) (j : Nat) (hj : j < xs.length) : cellOf (hp w b) (o + j) = xs[j]? := by
  obtain ⟨cs, E, fr, h1, h2⟩ := h
  rw [h1, cellOf_cells, h2 j xs[j] (by simp [hj])]
  simp [hj]
theorem At.cell0 {w : World} {b o : Nat} {xs : List Value} (h : At w b o xs) (hj : 0 < xs.length) : cellOf (hp w b) o = xs[0]? := by simpa using h.cell 0 hj
theorem At.cell2 {w : World} {b o : Nat} {xs : List Value} (h : At w b o xs) (i j : Nat) (hj : i + j < xs.length) : cellOf (hp w b) (o + i + j) = xs[i + j]? := by rw [Nat.add_assoc]; exact h.cell _ hj
theorem At.cells {w : World} {b o : Nat} {xs : List Value} (h : At w b o xs) (j n : Nat) (hn : 0 < n) (hj : j + n ≤ xs.length) : cellsOf (hp w b) (o + j) n = some ((xs.drop j).take n).toArray := by
  obtain ⟨cs, E, fr, h1, h2⟩ := h
  rw [h1, cellsOf_cells]
  have hs : ∀ i, i < xs.length → o + i < cs.size := fun i hi => by
    have := h2 i xs[i] (by simp [hi])
    exact (Array.getElem?_eq_some_iff.1 this).1
  have hle : o + j + n ≤ cs.size := by
    have := hs (j + n - 1) (by omega)
    omega
  rw [if_pos hle]
  congr 1
  apply Array.ext_getElem?
  intro i
  by_cases hi : i < n
  · have hx := h2 (j + i) xs[j + i] (by rw [List.getElem?_eq_getElem])
    simp [Array.getElem?_extract, hi, List.getElem?_drop]
    rw [if_pos (by omega), show o + j + i = o + (j + i) by omega, hx]
    rw [List.getElem?_eq_getElem (by omega)]
  · rw [Array.getElem?_eq_none (by simp; omega)]
    simp
    omega
theorem At.cells0 {w : World} {b o : Nat} {xs : List Value} (h : At w b o xs) (n : Nat) (hn : 0 < n) (hj : n ≤ xs.length) : cellsOf (hp w b) o n = some (xs.take n).toArray := by simpa using h.cells 0 n hn (by omega)
theorem At.cells2 {w : World} {b o : Nat} {xs : List Value} (h : At w b o xs) (i j n : Nat) (hn : 0 < n) (hj : i + j + n ≤ xs.length) : cellsOf (hp w b) (o + i + j) n = some ((xs.drop (i + j)).take n).toArray := by rw [Nat.add_assoc]; exact h.cells _ n hn hj

/-! ### Slices that read as lists -/
/-- A slice whose elements, of 'k' cells each, read as the list 'l'. -/
def Rd {α : Type} (w : World) (k : Nat) (enc : α → List Value) (v : Value) (l : List α) : Prop :=
  ∃ a c, v = .slice a l.length c ∧ ∀ i x, l[i]? = some x → ∃ b off, a = some ⟨b, off, none⟩ ∧ At w b (off + i * k) (enc x)
theorem Rd.bel {α : Type} {w w' : World} {k : Nat} {enc : α → List Value} {v : Value} {l : List α} (h : Rd w k enc v l) (hb : Bel w w') : Rd w' k enc v l := by
  obtain ⟨a, c, h1, h2⟩ := h
  refine ⟨a, c, h1, fun i x hx => ?_⟩
  obtain ⟨b, off, h3, h4⟩ := h2 i x hx
  exact ⟨b, off, h3, h4.bel hb⟩
theorem Rd.at {α : Type} {w : World} {k : Nat} {enc : α → List Value} {v : Value} {l : List α} (h : Rd w k enc v l) {i : Nat} {x : α} (hi : l[i]? = some x) :
    ∃ b o c, (∃ off, o = off + i * k ∧ v = .slice (some ⟨b, off, none⟩) l.length c) ∧ At w b o (enc x) := by
  obtain ⟨a, c, h1, h2⟩ := h
  obtain ⟨b, off, rfl, h4⟩ := h2 i x hi
  exact ⟨b, off + i * k, c, ⟨off, rfl, h1⟩, h4⟩
theorem Rd.form {α : Type} {w : World} {k : Nat} {enc : α → List Value} {v : Value} {l : List α} (h : Rd w k enc v l) : ∃ a c, v = .slice a l.length c := let ⟨a, c, h, _⟩ := h; ⟨a, c, h⟩
/-- An element's place. -/
theorem idxR {T k : Nat} (hT : elSize Pg T = some k) {b o n c : Nat} {i : Nat} (hi : i < n) {kk : IntKind} {K : Value → Prop} :
    pureP Pg (Instr.indexAt T (.slice (some ⟨b, o, none⟩) n c) (.int kk (i : Int))) K ↔ K (.pointer (some ⟨b, o + i * k, none⟩)) := by
  have := pure_index hT b o n c kk (i : Int) K ⟨by omega, by omega⟩
  simpa using this

/-! ### Slices of the call's own -/
/-- A slice in a row of the call's own, from block B on. -/
def Own {α : Type} (w : World) (B : Nat) (E k : Nat) (enc : α → List Value) (v : Value) (l : List α) : Prop := w.ownsRow B E k v l.length (l.flatMap enc)
structure Enc {α : Type} (k : Nat) (enc : α → List Value) : Prop where
  len : ∀ x, (enc x).length = k
  one : ∀ x, ∀ u ∈ enc x, u.oneCell' = true
  pos : 0 < k
theorem flatMap_at {α : Type} {k : Nat} {enc : α → List Value} (he : Enc k enc) : ∀ {l : List α} {i : Nat} {x : α}, l[i]? = some x → ∀ {j : Nat} {y : Value}, (enc x)[j]? = some y → (l.flatMap enc)[i * k + j]? = some y
  | a :: l, 0, x, h, j, y, hj => by
    simp at h; subst h
    rw [List.flatMap_cons, Nat.zero_mul, Nat.zero_add, List.getElem?_append_left (List.getElem?_eq_some_iff.1 hj).1]
    exact hj
  | a :: l, i + 1, x, h, j, y, hj => by
    rw [List.flatMap_cons, List.getElem?_append_right (by rw [he.len, Nat.add_mul]; omega), he.len, show (i + 1) * k + j - k = i * k + j by rw [Nat.add_mul]; omega]
    exact flatMap_at he (by simpa using h) hj
theorem Own.rd {α : Type} {w : World} {B E k : Nat} {enc : α → List Value} {v : Value} {l : List α} (h : Own w B E k enc v l) (he : Enc k enc) : Rd w k enc v l := by
  obtain ⟨h0, h | ⟨g, cap, cur, rfl, hB, hg, hn, hc, hs, ht⟩⟩ := h
  · obtain ⟨rfl, hn⟩ := h
    have : l = [] := List.eq_nil_of_length_eq_zero hn
    subst this
    exact ⟨none, 0, rfl, fun i x hx => by simp at hx⟩
  · refine ⟨_, _, rfl, fun i x hx => ⟨g, 0, rfl, cur, E, (0, 0), hg, fun j y hy => ?_⟩⟩
    have h1 := flatMap_at he hx hy
    rw [← ht, List.getElem?_take] at h1
    split at h1
    · simpa using h1
    · cases h1
theorem Own.nil {α : Type} (w : World) (B E k : Nat) (enc : α → List Value) : Own w B E k enc (.slice none 0 0) [] := w.ownsRow_nil B E k
theorem Own.kept {α : Type} {w w' : World} {B E k : Nat} {enc : α → List Value} {v : Value} {l : List α} (h : Own w B E k enc v l) (hk : ∀ g, v.ownBlock = some g → hp w' g = hp w g) : Own w' B E k enc v l := by
  obtain ⟨h0, h | ⟨g, cap, cur, rfl, hB, hg, hn, hc, hs, ht⟩⟩ := h
  · exact ⟨h0, .inl h⟩
  · exact ⟨h0, .inr ⟨g, cap, cur, rfl, hB, (hk g rfl).trans hg, hn, hc, hs, ht⟩⟩
theorem Own.bel {α : Type} {w w' : World} {B E k : Nat} {enc : α → List Value} {v : Value} {l : List α} (h : Own w B E k enc v l) (hb : Bel w w') : Own w' B E k enc v l :=
  h.kept fun g hg => hb.block g (World.ownsRow.lt h g hg).2
theorem Own.ge {α : Type} {w : World} {B E k : Nat} {enc : α → List Value} {v : Value} {l : List α} (h : Own w B E k enc v l) {g : Nat} (hg : v.ownBlock = some g) : B ≤ g ∧ g < w.heap.size := World.ownsRow.lt h g hg
/-- Where a block is no row of that type, it is not that row. -/
theorem Own.ne {α : Type} {w : World} {B E k : Nat} {enc : α → List Value} {v : Value} {l : List α} (h : Own w B E k enc v l) {c : Nat} {o : Obj} (hc : hp w c = some o) (ho : ∀ cur, o ≠ .cells cur E (0, 0)) : some c ≠ v.ownBlock := by
  intro e
  obtain ⟨h0, h | ⟨g, cap, cur, rfl, hB, hg, _⟩⟩ := h
  · obtain ⟨rfl, _⟩ := h; cases e
  · injection e with e
    subst e
    exact ho cur (by have := hc.symm.trans hg; injection this)
theorem grown_hp {w w' : World} {row : Option Nat} (h : w.grownBy w' row) {b : Nat} {o : Obj} (hb : hp w b = some o) (hn : some b ≠ row) : hp w' b = some o := (h.block b (hp_lt hb) hn).trans hb
theorem grown_bel {a w w' : World} {row : Option Nat} (h : w.grownBy w' row) (hb : Bel a w) (hr : ∀ g, row = some g → a.heap.size ≤ g) : Bel a w' :=
  hb.trans ⟨h.os, h.tape, h.output, h.size, fun k hk => h.block k (Nat.lt_of_lt_of_le hk hb.size) fun e => by have := hr k e.symm; omega⟩
/-- What append asks of the types. -/
structure RowT (T E k bytes : Nat) : Prop where
  und : Pg.underlying T = some (.slice E)
  info : (Pg.info? E).map (fun i => (i.size, i.bytes, (i.zero.map (·.cells.size)))) = some (k, bytes, some k)
theorem app {α : Type} {w : World} {B T E k bytes ty : Nat} (hT : RowT T E k bytes) {enc : α → List Value} (he : Enc k enc) {v : Value} {l : List α} (h : Own w B E k enc v l)
    {blk c : Nat} {x : α} {fr : Nat × Nat} {cs : Array Value} (hx : hp w blk = some (.cells cs E fr)) (hcs : cs.toList = enc x) (hl : (l.length + 1) * bytes ≤ 140737488355328) (hl2 : l.length + 1 ≤ maxLen) (hB : B ≤ w.heap.size)
    {K : Value → World → Prop} (hK : ∀ v' w', Own w' B E k enc v' (l ++ [x]) → w.grownBy w' v.ownBlock → (v'.ownBlock = v.ownBlock ∨ v'.ownBlock = some w.heap.size) → K v' w') :
    S Pg (Builtin.append_ #[T, T] ty #[v, .slice (some ⟨blk, 0, none⟩) 1 c]) w K := by
  obtain ⟨hu, hi⟩ := hT
  obtain ⟨i, hi, he2⟩ := Option.map_eq_some_iff.1 hi
  injection he2 with e1 e2
  injection e2 with e2 e3
  obtain ⟨z, hz, hzs⟩ := Option.map_eq_some_iff.1 e3
  have hnews : ∀ j u, (enc x)[j]? = some u → w.cell? ((⟨blk, 0, none⟩ : Addr).add j) = some u := fun j u hj => by
    rw [← hcs] at hj
    have hj' : cs[j]? = some u := by simpa using hj
    have hh : w.heap[blk]? = some (.cells cs E fr) := hx
    simp [World.cell?, Addr.add_lit, hh, hj']
  obtain ⟨v', w', h1, h2, h3, h4, h5⟩ := run_append_own_at (P := Pg) w B T ty E i z k bytes hu hi hz e1 e2 hzs he.pos v l.length (l.flatMap enc) h ⟨blk, 0, none⟩ 1 c (enc x) (by rw [he.len, Nat.one_mul]) hnews (he.one x) hl2 hl hB
  refine (S_of h1).2 (hK v' w' ?_ h3 h5)
  unfold Own
  rw [List.length_append, List.flatMap_append]
  simpa using h2

/-! ### Maps -/
/-- Keys that can be found. -/
structure KeyOk {κ : Type} [DecidableEq κ] (T : TypeId) (enc : κ → Value) : Prop where
  eq : ∀ a b w, (Op.equal T (enc a) (enc b) : Sem Bool).run Pg w = .ok (decide (a = b)) w
  now : ∃ d, Pg.underlying T = some d ∧ ((∀ a b, Instr.sameNow d (enc a) (enc b) = none) ∨ (∀ a b, Instr.sameNow d (enc a) (enc b) = some (decide (a = b))))
  check : ∀ f a w, (Instr.checkKey f 10000 T (enc a) : Sem Unit).run Pg w = .ok () w
  bits : ∀ a, Instr.sameBits 10000 (enc a) (enc a) = true
/-- What a key has in a list. -/
def look {κ ν : Type} [DecidableEq κ] (k : κ) : List (κ × ν) → Option ν
  | [] => none
  | (a, v) :: l => if k = a then some v else look k l
def put {κ ν : Type} [DecidableEq κ] (k : κ) (v : ν) : List (κ × ν) → List (κ × ν)
  | [] => [(k, v)]
  | (a, u) :: l => if k = a then (a, v) :: l else (a, u) :: put k v l
section
variable {κ ν : Type} [DecidableEq κ]
@[simp] theorem look_nil (k : κ) : look k ([] : List (κ × ν)) = none := rfl
theorem look_put (k k' : κ) (v : ν) : ∀ l, look k' (put k v l) = if k' = k then some v else look k' l
  | [] => rfl
  | (a, u) :: l => by
    unfold put
    by_cases h : k = a
    · subst h
      rw [if_pos rfl]
      unfold look
      split <;> rfl
    · rw [if_neg h]
      unfold look
      rw [look_put k k' v l]
      by_cases h2 : k' = a
      · rw [if_pos h2, if_pos h2, if_neg (by rintro rfl; exact h h2)]
      · rw [if_neg h2, if_neg h2]
theorem put_keys_some {k : κ} {v u : ν} : ∀ {l}, look k l = some u → (put k v l).map (·.1) = l.map (·.1)
  | (a, x) :: l, h => by
    unfold look at h
    unfold put
    by_cases e : k = a
    · rw [if_pos e]; rfl
    · rw [if_neg e] at h ⊢
      simp [put_keys_some h]
theorem put_none {k : κ} {v : ν} : ∀ {l}, look k l = none → put k v l = l ++ [(k, v)]
  | [], _ => rfl
  | (a, x) :: l, h => by
    unfold look at h
    unfold put
    by_cases e : k = a
    · rw [if_pos e] at h; cases h
    · rw [if_neg e] at h ⊢
      simp [put_none h]
theorem look_none_iff {k : κ} : ∀ {l : List (κ × ν)}, look k l = none ↔ k ∉ l.map (·.1)
  | [] => by simp
  | (a, x) :: l => by
    unfold look
    by_cases e : k = a
    · rw [if_pos e]; simp [e]
    · rw [if_neg e, look_none_iff]; simp [e]
theorem look_mem {k : κ} {v : ν} : ∀ {l : List (κ × ν)}, look k l = some v → (k, v) ∈ l
  | (a, x) :: l, h => by
    unfold look at h
    by_cases e : k = a
    · rw [if_pos e] at h; injection h with h; subst h; subst e; exact List.mem_cons_self
    · rw [if_neg e] at h; exact List.mem_cons_of_mem _ (look_mem h)
theorem look_of_mem {k : κ} {v : ν} : ∀ {l : List (κ × ν)}, (l.map (·.1)).Nodup → (k, v) ∈ l → look k l = some v
  | (a, x) :: l, hn, h => by
    unfold look
    rw [List.map_cons, List.nodup_cons] at hn
    rcases List.mem_cons.1 h with h | h
    · injection h with h1 h2; rw [if_pos h1, h2]
    · rw [if_neg (fun e => hn.1 (List.mem_map.2 ⟨(k, v), h, e⟩))]
      exact look_of_mem hn.2 h
theorem put_nodup {k : κ} {v : ν} {l : List (κ × ν)} (h : (l.map (·.1)).Nodup) : ((put k v l).map (·.1)).Nodup := by
  cases e : look k l with
  | some u => rwa [put_keys_some e]
  | none =>
    rw [put_none e, List.map_append, List.nodup_append]
    refine ⟨h, by simp, ?_⟩
    intro a ha b hb
    simp at hb
    subst hb
    rintro rfl
    exact look_none_iff.1 e ha
theorem put_length (k : κ) (v : ν) (l : List (κ × ν)) : (put k v l).length = if (look k l).isSome then l.length else l.length + 1 := by
  cases e : look k l with
  | some u =>
    have := congrArg List.length (put_keys_some (v := v) e)
    simpa using this
  | none => rw [put_none e]; simp
end

theorem run_getO {w : World} {r c : Nat} {es : Array MapEntry} (h : hp w r = some (.map es c)) : (getObj r : Sem Obj).run Pg w = .ok (.map es c) w := by
  have hg : w.heap[r]? = some (.map es c) := h
  simp [getObj, Sem.run, hg]
theorem run_setO {w : World} {r c : Nat} {es : Array MapEntry} (h : hp w r = some (.map es c)) (o' : Obj) : (setObj r o' : Sem Unit).run Pg w = .ok () (upd w r o') := by
  have hg : w.heap[r]? = some (.map es c) := h
  simp [setObj, Sem.run, hg, upd]
/-- The entries are those of a list. -/
def Ents {κ ν : Type} (ek : κ → Value) (ev : ν → Value) (es : List MapEntry) (l : List (κ × ν)) : Prop := es.map (fun e => (e.key, e.val)) = l.map (fun p => (ek p.1, ev p.2))
/-- A map that holds a list's pairs. -/
def Mp {κ ν : Type} (w : World) (r : Nat) (ek : κ → Value) (ev : ν → Value) (l : List (κ × ν)) : Prop :=
  ∃ es clock, hp w r = some (.map es clock) ∧ Ents ek ev es.toList l ∧ (l.map (·.1)).Nodup ∧ (es.toList.map (·.born)).Nodup ∧ ∀ e ∈ es.toList, e.born < clock
set_option linter.unusedSectionVars false
section
variable {κ ν : Type} [DecidableEq κ] {T : TypeId} {ek : κ → Value} {ev : ν → Value}
theorem Mp.bel {w w' : World} {r : Nat} {l : List (κ × ν)} (h : Mp w r ek ev l) (k : Bel w w') : Mp w' r ek ev l := let ⟨es, c, h1, h2⟩ := h; ⟨es, c, bg k h1, h2⟩
theorem Mp.keep {w w' : World} {r : Nat} {l : List (κ × ν)} (h : Mp w r ek ev l) (k : hp w' r = hp w r) : Mp w' r ek ev l := let ⟨es, c, h1, h2⟩ := h; ⟨es, c, k.trans h1, h2⟩
theorem Mp.lt {w : World} {r : Nat} {l : List (κ × ν)} (h : Mp w r ek ev l) : r < w.heap.size := let ⟨_, _, h, _⟩ := h; hp_lt h
/-- Where it is found. -/
def findAt (k : κ) : List (κ × ν) → Nat → Option (Nat × ν)
  | [], _ => none
  | (a, v) :: l, i => if k = a then some (i, v) else findAt k l (i + 1)
theorem findAt_look (k : κ) : ∀ (l : List (κ × ν)) (i : Nat), (findAt k l i).map (·.2) = look k l
  | [], _ => rfl
  | (a, v) :: l, i => by
    unfold findAt look
    split
    · rfl
    · exact findAt_look k l (i + 1)
theorem ents_cons {es : List MapEntry} {p : κ × ν} {l : List (κ × ν)} (h : Ents ek ev es (p :: l)) : ∃ e es', es = e :: es' ∧ e.key = ek p.1 ∧ e.val = ev p.2 ∧ Ents ek ev es' l := by
  cases es with
  | nil => simp [Ents] at h
  | cons e es' =>
    simp [Ents] at h
    exact ⟨e, es', rfl, h.1.1, h.1.2, h.2⟩
theorem ents_nil {es : List MapEntry} (h : Ents ek ev es ([] : List (κ × ν))) : es = [] := by simpa [Ents] using h
theorem run_findAsking (ho : KeyOk T ek) (k : κ) (w : World) : ∀ (l : List (κ × ν)) (es : List MapEntry) (i : Nat), Ents ek ev es l →
    (Instr.findAsking T (ek k) es i).run Pg w = .ok ((findAt k l i).map fun p => (p.1, ev p.2)) w
  | [], es, i, h => by
    rw [ents_nil h]
    simp [Instr.findAsking, findAt]
  | (a, v) :: l, es, i, h => by
    obtain ⟨e, es', rfl, h1, h2, h3⟩ := ents_cons h
    have ih := run_findAsking ho k w l es' (i + 1) h3
    unfold Instr.findAsking findAt
    rw [h1]
    simp only [Sem.run_bind, ho.eq, Result.andThen]
    by_cases hk : k = a
    · simp [hk, h2]
    · simp [hk, ih]
theorem findNow_none {d : TypeDesc} (hn : ∀ a b : κ, Instr.sameNow d (ek a) (ek b) = none) (k : κ) : ∀ (l : List (κ × ν)) (es : List MapEntry) (i : Nat), Ents ek ev es l → l ≠ [] → Instr.findNow d (ek k) es i = none
  | (a, v) :: l, es, i, h, _ => by
    obtain ⟨e, es', rfl, h1, h2, h3⟩ := ents_cons h
    unfold Instr.findNow
    rw [h1, hn]
theorem findNow_some {d : TypeDesc} (hn : ∀ a b : κ, Instr.sameNow d (ek a) (ek b) = some (decide (a = b))) (k : κ) : ∀ (l : List (κ × ν)) (es : List MapEntry) (i : Nat), Ents ek ev es l →
    Instr.findNow d (ek k) es i = some ((findAt k l i).map fun p => (p.1, ev p.2))
  | [], es, i, h => by
    rw [ents_nil h]; rfl
  | (a, v) :: l, es, i, h => by
    obtain ⟨e, es', rfl, h1, h2, h3⟩ := ents_cons h
    unfold Instr.findNow findAt
    rw [h1, hn]
    by_cases hk : k = a
    · simp [hk, h2]
    · simp [hk, findNow_some hn k l es' (i + 1) h3]
theorem run_findKey (ho : KeyOk T ek) (k : κ) (w : World) {l : List (κ × ν)} {es : List MapEntry} (h : Ents ek ev es l) :
    (Instr.findKey T (ek k) es).run Pg w = .ok ((findAt k l 0).map fun p => (p.1, ev p.2)) w := by
  obtain ⟨d, hd, hn⟩ := ho.now
  unfold Instr.findKey
  simp only [Sem.run_bind, run_und hd, Result.andThen]
  rcases hn with hn | hn
  · by_cases hl : l = []
    · subst hl
      rw [ents_nil h]
      simp [Instr.findNow, findAt]
    · rw [findNow_none hn k l es 0 h hl]
      exact run_findAsking ho k w l es 0 h
  · rw [findNow_some hn k l es 0 h]
    rfl
theorem run_lookup {M E : TypeId} (ho : KeyOk T ek) (hM : Pg.underlying M = some (.map T E)) {z : Value} (hz : zeroT Pg E = some z) {w : World} {r : Nat} {l : List (κ × ν)} (h : Mp w r ek ev l) (k : κ) (c : Bool) :
    (Instr.lookup M (.map (some r)) (ek k) c).run Pg w = .ok (if c then .tuple #[((look k l).map ev).getD z, .bool (look k l).isSome] else ((look k l).map ev).getD z) w := by
  obtain ⟨es, clock, h1, h2, h3, h4, h5⟩ := h
  have hz' : (zeroValue E : Sem Value).run Pg w = .ok z w := by
    unfold zeroT at hz
    obtain ⟨i, hi, hz⟩ := Option.bind_eq_some_iff.1 hz
    simp [zeroValue, run_info hi, Result.andThen, hz]
  have hg : w.heap[r]? = some (.map es clock) := h1
  unfold Instr.lookup
  simp only [Sem.run_bind, run_und hM, Result.andThen]
  simp [run_getO h1, ho.check, run_findKey ho k w h2, Result.andThen]
  rw [← findAt_look k l 0]
  cases hf : findAt k l 0 with
  | none => cases c <;> simp [hz', Result.andThen]
  | some p => cases c <;> simp
theorem Mp.len {w : World} {r : Nat} {l : List (κ × ν)} (h : Mp w r ek ev l) {M E : TypeId} {ty : TypeId} (hM : Pg.underlying M = some (.map T E)) :
    (Builtin.len_ #[M] ty #[.map (some r)]).run Pg w = .ok (.int .i64 l.length) w := by
  obtain ⟨es, clock, h1, h2, h3, h4, h5⟩ := h
  have hg : w.heap[r]? = some (.map es clock) := h1
  have : es.size = l.length := by
    have := congrArg List.length h2
    simpa using this
  simp [Builtin.len_, run_und hM, Result.andThen, run_getO h1, goInt, this]
theorem ents_at {es : List MapEntry} {l : List (κ × ν)} (h : Ents ek ev es l) {i : Nat} {e : MapEntry} (he : es[i]? = some e) : ∃ p, l[i]? = some p ∧ e.key = ek p.1 ∧ e.val = ev p.2 := by
  have h1 : (es.map (fun e => (e.key, e.val)))[i]? = some (e.key, e.val) := by simp [he]
  rw [show es.map (fun e => (e.key, e.val)) = _ from h, List.getElem?_map] at h1
  obtain ⟨p, hp, h2⟩ := Option.map_eq_some_iff.1 h1
  injection h2 with h3 h4
  exact ⟨p, hp, h3.symm, h4.symm⟩
theorem findAt_some {k : κ} {v : ν} : ∀ {l : List (κ × ν)} {i j : Nat}, findAt k l i = some (j, v) → ∃ n, j = i + n ∧ l[n]? = some (k, v) ∧ ∀ u, put k u l = l.set n (k, u)
  | (a, x) :: l, i, j, h => by
    unfold findAt at h
    by_cases e : k = a
    · rw [if_pos e] at h
      injection h with h
      injection h with h1 h2
      subst h1; subst h2; subst e
      exact ⟨0, rfl, rfl, fun u => by simp [put]⟩
    · rw [if_neg e] at h
      obtain ⟨n, h1, h2, h3⟩ := findAt_some h
      exact ⟨n + 1, by omega, by simpa using h2, fun u => by simp [put, e, h3]⟩
theorem mupd {M E : TypeId} (ho : KeyOk T ek) (hM : Pg.underlying M = some (.map T E)) {w : World} {r : Nat} {l : List (κ × ν)} (h : Mp w r ek ev l) {k : κ} {v : ν}
    {K : World → Prop} (hK : ∀ o, (∃ es c, o = .map es c) → Mp (upd w r o) r ek ev (put k v l) → K (upd w r o)) : U Pg (Instr.mapUpdate M (.map (some r)) (ek k) (ev v)) w K := by
  have hnd := put_nodup (v := v) (k := k) h.choose_spec.choose_spec.2.2.1
  obtain ⟨es, clock, h1, h2, h3, h4, h5⟩ := h
  have hg : w.heap[r]? = some (.map es clock) := h1
  have run : ∃ es' clock', (Instr.mapUpdate M (.map (some r)) (ek k) (ev v)).run Pg w = .ok () (upd w r (.map es' clock')) ∧ Ents ek ev es'.toList (put k v l) ∧ (es'.toList.map (·.born)).Nodup ∧ ∀ e ∈ es'.toList, e.born < clock' := by
    unfold Instr.mapUpdate
    simp only [Sem.run_bind, run_und hM, Result.andThen]
    cases hf : findAt k l 0 with
    | none =>
      refine ⟨es.push { key := ek k, val := ev v, born := clock }, clock + 1, ?_, ?_, ?_, ?_⟩
      · simp [run_getO h1, ho.check, run_findKey ho k w h2, Result.andThen, hf, run_setO h1]
      · have : look k l = none := by rw [← findAt_look k l 0, hf]; rfl
        rw [put_none this]
        simp [Ents]
        exact h2
      · rw [Array.toList_push, List.map_append, List.nodup_append]
        refine ⟨h4, by simp, ?_⟩
        intro a ha b hb
        obtain ⟨e, he, rfl⟩ := List.mem_map.1 ha
        have := h5 e he
        simp at hb
        omega
      · intro e he
        rw [Array.toList_push, List.mem_append] at he
        rcases he with he | he
        · have := h5 e he; omega
        · simp at he; subst he; simp
    | some p =>
      obtain ⟨i, u⟩ := p
      obtain ⟨n, hn, hl, hp⟩ := findAt_some hf
      obtain rfl : i = n := by omega
      have hlen : es.toList.length = l.length := by
        have := congrArg List.length h2
        simpa using this
      have hi : i < es.toList.length := by rw [hlen]; exact (List.getElem?_eq_some_iff.1 hl).1
      obtain ⟨q, hq, hk, hv⟩ := ents_at h2 (List.getElem?_eq_getElem hi)
      rw [hl] at hq
      injection hq with hq
      subst hq
      have hi' : i < es.size := by simpa using hi
      have hkey : es[i].key = ek k := by simpa using hk
      have hm : (es.modify i fun e => { e with key := ek k, val := ev v }).toList = es.toList.set i { key := ek k, val := ev v, born := es[i].born } := by
        apply List.ext_getElem?
        intro j
        simp [List.getElem?_set]
        by_cases hj : i = j
        · subst hj; simp [hi']
        · simp [hj]
      refine ⟨es.modify i fun e => { e with key := ek k, val := ev v }, clock, ?_, ?_, ?_, ?_⟩
      · simp [run_getO h1, ho.check, run_findKey ho k w h2, Result.andThen, hf, run_setO h1, hi', hkey, Instr.keyThatStays, ho.bits]
      · unfold Ents at h2 ⊢
        rw [hm, hp, List.map_set, List.map_set, h2]
      · rw [hm, List.map_set]
        have : (List.map (fun x => x.born) es.toList).set i es[i].born = List.map (fun x => x.born) es.toList := by
          apply List.ext_getElem?
          intro j
          rw [List.getElem?_set]
          by_cases hj : i = j
          · subst hj; simp [hi']
          · simp [hj]
        rw [this]; exact h4
      · intro e he
        rw [hm] at he
        rcases List.mem_or_eq_of_mem_set he with he | rfl
        · exact h5 e he
        · exact h5 es[i] (by simp)
  obtain ⟨es', clock', h6, h7, h8, h9⟩ := run
  exact ⟨_, h6, hK _ ⟨_, _, rfl⟩ ⟨es', clock', by simp [h1], h7, hnd, h8, h9⟩⟩
theorem mkmap {M : TypeId} {w : World} {K : Value → World → Prop} (hK : K (.map (some w.heap.size)) (ext w [.map #[] 0])) : S Pg (Instr.makeMap M none) w K := by
  refine (S_of ?_).2 hK
  rw [ext_one]
  simp [go_sem, Instr.makeMap]
theorem Mp.new (w : World) (ek : κ → Value) (ev : ν → Value) : Mp (ext w [.map #[] 0]) w.heap.size ek ev [] := ⟨#[], 0, by simp, rfl, List.nodup_nil, List.nodup_nil, by simp⟩
end
end Go.Proofs.Ytbcmoikpmmjlkaa
