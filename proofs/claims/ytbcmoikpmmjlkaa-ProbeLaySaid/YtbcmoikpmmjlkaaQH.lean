/- Law 14: what a write to a table leaves; slots read and written. -/
import Derived.Test.YtbcmoikpmmjlkaaQG
import Derived.Test.YtbcmoikpmmjlkaaF2
namespace Go.Proofs.Ytbcmoikpmmjlkaa
open Go Eng
set_option maxRecDepth 100000
/-- Only the table's cell and its row are written. -/
structure TFr (r g : Nat) (w w' : World) : Prop where
  bel : ∀ w0 : World, w0.heap.size ≤ r → w0.heap.size ≤ g → Bel w0 w → Bel w0 w'
  blk : ∀ (b : Nat) (o : Obj), hp w b = some o → b ≠ r → b ≠ g → hp w' b = some o
  size : w.heap.size ≤ w'.heap.size
theorem TFr.of_bel {r g : Nat} {w w' : World} (h : Bel w w') : TFr r g w w' := ⟨fun _ _ _ h0 => bt h0 h, fun _ _ hb _ _ => bg h hb, h.size⟩
theorem TFr.trans {r g : Nat} {a b c : World} (h : TFr r g a b) (k : TFr r g b c) : TFr r g a c :=
  ⟨fun w0 h1 h2 h3 => k.bel w0 h1 h2 (h.bel w0 h1 h2 h3), fun x o hx h1 h2 => k.blk x o (h.blk x o hx h1 h2) h1 h2, Nat.le_trans h.size k.size⟩
theorem TFr.upd {r g b : Nat} (w : World) (hb : b = r ∨ b = g) (o : Obj) : TFr r g w (upd w b o) := by
  refine ⟨fun w0 h1 h2 h3 => bu h3 (by rcases hb with rfl | rfl <;> assumption) o, fun x y hx h1 h2 => ?_, by simp⟩
  rw [upd_ne _ _ _ _ (by rcases hb with rfl | rfl <;> assumption)]
  exact hx
theorem TFr.key {r g : Nat} {w w' : World} {B seed many : Nat} {L : List Pm} {x : Pm} (f : TFr r g w w') (h : TbM w B r g seed L many) (k : KeyM w B x) : KeyM w' B x :=
  ⟨k.kc.keep fun b o hb hE _ => f.blk b o hb (by rintro rfl; rw [h.cell] at hb; injection hb with hb; have := hE _ _ _ hb.symm; cases this) (by rintro rfl; rw [h.row] at hb; injection hb with hb; have := hE _ _ _ hb.symm; cases this), k.byte, k.len⟩
theorem TbM.ne {w : World} {B r g seed many : Nat} {L : List Pm} (h : TbM w B r g seed L many) : r ≠ g := by
  rintro rfl
  have := h.row
  rw [h.cell] at this
  injection this with this
  injection this with _ this
  cases this
theorem rdSlot {St : World → Prop} {g : Nat} {L : List Pm} (h : ∀ u, St u → hp u g = some (.cells (L.flatMap encPm).toArray 96)) (hn : 0 < L.length) (p : Nat) {K : Value → Prop} (hK : K (.agg (encPm (sl L p)).toArray)) :
    pureP Pg (Instr.indexAt 93 (.slice (some ⟨g, 0, none⟩) L.length L.length) (.int .i64 (p % L.length : Nat))) fun t => readP St (loadW Pg 96 t) K := by
  have hm := Nat.mod_lt p hn
  refine (idxR (T := 93) (k := 4) (by kernel_rfl) hm).2 ?_
  refine ⟨_, fun u hu => ?_, hK⟩
  obtain ⟨b, o, c, ⟨off, ho, e⟩, hat⟩ := (rd_lit (n := L.length) (c := L.length) encPm_ok (h u hu) (by simp) rfl).at (sl_get rfl hn (p := p))
  injection e with e
  injection e with e
  injection e with e1 e2
  subst e1; subst e2
  rw [← ho]
  have := hat.cells0 4 (by decide) (by simp [encPm])
  simp only [loadW_ptr, shape_96, ldSh_agg, this]; rfl
theorem stSlot {w : World} {g : Nat} {L : List Pm} (hg : hp w g = some (.cells (L.flatMap encPm).toArray 96)) {i : Nat} (hi : i < L.length) (x : Pm) {K : World → Prop} (hK : K (upd w g (.cells ((L.set i x).flatMap encPm).toArray 96))) :
    pureP Pg (Instr.indexAt 93 (.slice (some ⟨g, 0, none⟩) L.length L.length) (.int .i64 (i : Nat))) fun t => getU (storeW Pg 96 t (.agg (encPm x).toArray) w) K := by
  refine (idxR (T := 93) (k := 4) (by kernel_rfl) hi).2 ?_
  have hlen : ∀ l : List Pm, (l.flatMap encPm).length = l.length * 4 := by
    intro l
    induction l with
    | nil => rfl
    | cons y l ih => rw [List.flatMap_cons, List.length_append, ih, List.length_cons, Nat.add_mul]; simp [encPm]; omega
  have e1 : L = L.take i ++ L[i] :: L.drop (i + 1) := by rw [← List.drop_eq_getElem_cons hi, List.take_append_drop]
  have e2 : L.set i x = L.take i ++ x :: L.drop (i + 1) := by
    rw [List.set_eq_take_append_cons_drop, if_pos hi]
  have hA : ((L.take i).flatMap encPm).length = i * 4 := by rw [hlen, List.length_take, Nat.min_eq_left (by omega)]
  rw [e2, List.flatMap_append, List.flatMap_cons] at hK
  have hg' : hp w g = some (.cells ((L.take i).flatMap encPm ++ (encPm L[i] ++ (L.drop (i + 1)).flatMap encPm)).toArray 96) := by
    rw [hg]
    conv => lhs; rw [e1, List.flatMap_append, List.flatMap_cons]
  generalize (L.take i).flatMap encPm = A at *
  generalize (L.drop (i + 1)).flatMap encPm = rest at *
  generalize L[i] = s at *
  rw [Nat.zero_add, ← hA]
  have h1 : A.length + 4 ≤ A.length + (rest.length + 1 + 1 + 1 + 1) := by omega
  simp [hg', encPm, h1]
  have e : ∀ (c : List Value) (j : Nat) (u : Value), (A ++ c).set (A.length + j) u = A ++ c.set j u := fun c j u => by simp
  rw [show A.length + 1 + 1 = A.length + 2 from rfl, show A.length + 2 + 1 = A.length + 3 from rfl, e, e]
  simpa [encPm] using hK
/-- What is where, while a key is being laid. -/
structure Ly (w z : World) (B r g seed : Nat) (L L' : List Pm) (many q i m : Nat) (k : List Nat) (nu one : Pm) : Prop where
  tb : TbM z B r g seed L' many
  len : L'.length = L.length
  fr : TFr r g w z
  ks : (ks (one :: L')).Perm (k :: Go.Proofs.Ytbcmoikpmmjlkaa.ks L)
  go : one.used = true → Jl (hm seed L.length) L.length L' (q + i) one ∧ i ≤ m ∧ (sl L' (q + m)).used = false ∧ KeyM z B one
  done : one.used = false → Tb (hm seed L.length) L.length L' ∧ i ≤ m + 1
  ofar : one.far ≤ L.length + i
  far : ∀ x ∈ L', x.far ≤ L.length + i
  src : ∀ x, (x = one ∨ x ∈ L') → x.used = true → ∃ y, (y = nu ∨ y ∈ L) ∧ y.used = true ∧ y.kv = x.kv ∧ y.key = x.key
theorem Ly.bel {w z z' : World} {B r g seed many q i m : Nat} {L L' : List Pm} {k : List Nat} {nu one : Pm} (h : Ly w z B r g seed L L' many q i m k nu one) (b : Bel z z') : Ly w z' B r g seed L L' many q i m k nu one :=
  ⟨h.tb.bel b, h.len, h.fr.trans (.of_bel b), h.ks, fun hu => let ⟨a1, a2, a3, a4⟩ := h.go hu; ⟨a1, a2, a3, a4.bel b⟩, h.done, h.ofar, h.far, h.src⟩
/-- A step: the one is laid, what lay there goes on. -/
theorem Ly.step {w z : World} {B r g seed many q i m : Nat} {L L' : List Pm} {k : List Nat} {nu one : Pm} (h : Ly w z B r g seed L L' many q i m k nu one) (hu : one.used = true) (hn : 2 ≤ L.length) (hm : m < L.length) :
    Ly w (upd z g (.cells ((L'.set ((q + i) % L.length) one).flatMap encPm).toArray 96)) B r g seed L (L'.set ((q + i) % L.length) one) many q (i + 1) m k nu { sl L' (q + i) with far := (sl L' (q + i)).far + 1 } := by
  obtain ⟨j, him, hum, hk⟩ := h.go hu
  have hfr := TFr.upd (r := r) (g := g) (b := g) z (.inr rfl) (.cells ((L'.set ((q + i) % L.length) one).flatMap encPm).toArray 96)
  have hlen : (L'.set ((q + i) % L.length) one).length = L.length := by rw [List.length_set]; exact h.len
  have hmem : ∀ x ∈ L'.set ((q + i) % L.length) one, x = one ∨ x ∈ L' := fun x hx => (List.mem_or_eq_of_mem_set hx).symm
  have hs : ∀ p, sl (L'.set ((q + i) % L.length) one) p = if p % L.length = (q + i) % L.length then one else sl L' p := fun p => sl_set h.len (by omega)
  refine ⟨⟨?_, ?_, ⟨fun x hx hxu => ?_, fun x hx hxu => ?_⟩, h.tb.geR, h.tb.geG⟩, hlen, h.fr.trans hfr, ?_, fun ht => ?_, fun ht => ?_, ?_, fun x hx => ?_, fun x hx hxu => ?_⟩
  · rw [upd_ne _ _ _ _ h.tb.ne, hlen, ← h.len]; exact h.tb.cell
  · rw [upd_same, h.tb.row]; rfl
  · rcases hmem x hx with rfl | hx
    · exact hfr.key h.tb hk
    · exact hfr.key h.tb (h.tb.keys.used x hx hxu)
  · rcases hmem x hx with rfl | hx
    · rw [hu] at hxu; cases hxu
    · exact h.tb.keys.zero x hx hxu
  · exact (ks_lay h.len (by omega) (q + i) one (y := { sl L' (q + i) with far := (sl L' (q + i)).far + 1 }) rfl rfl).trans h.ks
  · have him2 : i < m := by
      refine Nat.lt_of_le_of_ne him fun e => ?_
      subst e
      have : (sl L' (q + i)).used = true := ht
      rw [hum] at this; cases this
    refine ⟨j.step hn ht, him2, ?_, ?_⟩
    · rw [hs, if_neg (fun e => by have := md_inj (by omega) (by omega) e; omega)]; exact hum
    · have := h.tb.keys.used _ (sl_mem (by rw [h.len]; omega) (q + i)) ht
      exact hfr.key h.tb ⟨this.kc, this.byte, this.len⟩
  · exact ⟨j.done hn ht, by omega⟩
  · have := h.far _ (sl_mem (by rw [h.len]; omega) (q + i))
    dsimp only
    omega
  · rcases hmem x hx with rfl | hx
    · have := h.ofar; omega
    · have := h.far x hx; omega
  · rcases hx with rfl | hx
    · obtain ⟨y, h1, h2, h3, h4⟩ := h.src (sl L' (q + i)) (.inr (sl_mem (by rw [h.len]; omega) _)) hxu
      exact ⟨y, h1, h2, h3, h4⟩
    · rcases hmem x hx with rfl | hx
      · exact h.src x (.inl rfl) hxu
      · exact h.src x (.inr hx) hxu
end Go.Proofs.Ytbcmoikpmmjlkaa
