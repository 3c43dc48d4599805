/- A map's entry, added to: rows[k] = append(rows[k], x). -/
import Derived.Test.YtbcmoikpmmjlkaaI
namespace Go.Proofs.Ytbcmoikpmmjlkaa
open Go Eng
set_option maxRecDepth 100000
set_option linter.unusedSectionVars false
section
variable {κ ν : Type} [DecidableEq κ] {T : TypeId} {ek : κ → Value}
theorem put_put (k : κ) (v v' : ν) : ∀ l : List (κ × ν), put k v' (put k v l) = put k v' l
  | [] => by simp [put]
  | (a, u) :: l => by
    by_cases h : k = a
    · simp [put, h]
    · simp [put, h, put_put k v v' l]
theorem put_same {k : κ} {v : ν} : ∀ {l : List (κ × ν)}, look k l = some v → put k v l = l
  | (a, u) :: l, h => by
    unfold look at h
    unfold put
    by_cases e : k = a
    · rw [if_pos e] at h ⊢; injection h with h; rw [h]
    · rw [if_neg e] at h ⊢; rw [put_same h]
/-- The map's entries; the one of 'k' has that stamp. -/
def Stamp (w : World) (m : Nat) (ek : κ → Value) (l : List (κ × Value)) (k : κ) (born : Nat) : Prop :=
  ∃ (es : Array MapEntry) (clock i : Nat) (e : MapEntry) (v : Value), hp w m = some (.map es clock) ∧ Ents ek id es.toList l ∧ (l.map (·.1)).Nodup ∧ (es.toList.map (·.born)).Nodup ∧ (∀ e ∈ es.toList, e.born < clock) ∧ es.toList[i]? = some e ∧ e.born = born ∧ l[i]? = some (k, v)
theorem Stamp.keep {w w' : World} {m : Nat} {l : List (κ × Value)} {k : κ} {born : Nat} (h : Stamp w m ek l k born) (e : hp w' m = hp w m) : Stamp w' m ek l k born := by
  obtain ⟨es, c, i, x, v, h1, h2⟩ := h
  exact ⟨es, c, i, x, v, e.trans h1, h2⟩
theorem Stamp.map {w : World} {m : Nat} {l : List (κ × Value)} {k : κ} {born : Nat} (h : Stamp w m ek l k born) : ∃ es c, hp w m = some (.map es c) := by
  obtain ⟨es, c, i, x, v, h1, h2⟩ := h
  exact ⟨es, c, h1⟩
theorem mentry {M E : TypeId} (ho : KeyOk T ek) (hM : Pg.underlying M = some (.map T E)) {z : Value} (hz : zeroT Pg E = some z) {w : World} {m : Nat} {mb : List (κ × Value)} (h : Mp w m ek id mb) (k : κ) {K : Value → World → Prop}
    (hK : ∀ o (born : Nat), (∃ es c, o = .map es c) → Stamp (upd w m o) m ek (put k ((look k mb).getD z) mb) k born → K (.tuple #[(look k mb).getD z, .int .i64 (born : Nat)]) (upd w m o)) : S Pg (Instr.mapEntry M (.map (some m)) (ek k)) w K := by
  have hnd := put_nodup (v := (look k mb).getD z) (k := k) h.choose_spec.choose_spec.2.2.1
  obtain ⟨es, clock, h1, h2, h3, h4, h5⟩ := h
  have hg : w.heap[m]? = some (.map es clock) := h1
  have hz' : (zeroValue E : Sem Value).run Pg w = .ok z w := by
    unfold zeroT at hz
    obtain ⟨i, hi, hz⟩ := Option.bind_eq_some_iff.1 hz
    simp [zeroValue, run_info hi, Result.andThen, hz]
  have hfl := findAt_look k mb 0
  cases hf : findAt k mb 0 with
  | none =>
    rw [hf] at hfl
    have hl : look k mb = none := hfl.symm
    rw [hl] at hK hnd
    refine (S_of (w' := upd w m (.map (es.push { key := ek k, val := z, born := clock }) (clock + 1))) ?_).2 (hK _ clock ⟨_, _, rfl⟩ ?_)
    · unfold Instr.mapEntry
      simp only [Sem.run_bind, run_und hM, Result.andThen]
      simp [run_getO h1, ho.check, run_findKey ho k w h2, Result.andThen, hf, run_setO h1, hz', goInt]
    · have hlen : es.toList.length = mb.length := by
        have := congrArg List.length h2
        simpa using this
      refine ⟨es.push { key := ek k, val := z, born := clock }, clock + 1, es.size, { key := ek k, val := z, born := clock }, z, by simp [h1], ?_, hnd, ?_, ?_, by simp, rfl, ?_⟩
      · rw [Option.getD_none, put_none hl]
        simp [Ents]
        exact h2
      · rw [Array.toList_push, List.map_append, List.nodup_append]
        refine ⟨h4, by simp, ?_⟩
        intro a ha b hb
        obtain ⟨e, he, rfl⟩ := List.mem_map.1 ha
        have := h5 e he
        simp at hb
        omega
      · intro e he
        rw [Array.toList_push, List.mem_append] at he
        rcases he with he | he
        · have := h5 e he; omega
        · simp at he; subst he; simp
      · rw [Option.getD_none, put_none hl]
        rw [show es.size = mb.length by simpa using hlen]
        simp
  | some p =>
    obtain ⟨i, u⟩ := p
    rw [hf] at hfl
    have hl : look k mb = some u := hfl.symm
    rw [hl, Option.getD_some, put_same hl] at hK hnd
    obtain ⟨n, hn, hln, hp'⟩ := findAt_some hf
    obtain rfl : i = n := by omega
    have hlen : es.toList.length = mb.length := by
      have := congrArg List.length h2
      simpa using this
    have hi : i < es.toList.length := by rw [hlen]; exact (List.getElem?_eq_some_iff.1 hln).1
    obtain ⟨q, hq, hk, hv⟩ := ents_at h2 (List.getElem?_eq_getElem hi)
    rw [hln] at hq
    injection hq with hq
    subst hq
    have hi' : i < es.size := by simpa using hi
    have hkey : es[i].key = ek k := by simpa using hk
    have hm : (es.modify i fun e => { e with key := ek k }).toList = es.toList.set i { key := ek k, val := es[i].val, born := es[i].born } := by
      apply List.ext_getElem?
      intro j
      simp [Array.getElem?_modify, List.getElem?_set]
      by_cases hj : i = j
      · subst hj; simp [hi']
      · simp [hj]
    refine (S_of (w' := upd w m (.map (es.modify i fun e => { e with key := ek k }) clock)) ?_).2 (hK _ es[i].born ⟨_, _, rfl⟩ ?_)
    · unfold Instr.mapEntry
      simp only [Sem.run_bind, run_und hM, Result.andThen]
      simp [run_getO h1, ho.check, run_findKey ho k w h2, Result.andThen, hf, run_setO h1, hi', hkey, Instr.keyThatStays, ho.bits, goInt]
    · refine ⟨es.modify i fun e => { e with key := ek k }, clock, i, { key := ek k, val := es[i].val, born := es[i].born }, u, by simp [h1], ?_, hnd, ?_, ?_, ?_, rfl, hln⟩
      · unfold Ents at h2 ⊢
        rw [hm, List.map_set, h2]
        apply List.ext_getElem?
        intro j
        rw [List.getElem?_set]
        by_cases hj : i = j
        · subst hj
          have hval : es[i].val = u := by simpa using hv
          simp [hln, hval]
          exact (List.getElem?_eq_some_iff.1 hln).1
        · simp [hj]
      · rw [hm, List.map_set]
        have : (List.map (fun x => x.born) es.toList).set i es[i].born = List.map (fun x => x.born) es.toList := by
          apply List.ext_getElem?
          intro j
          rw [List.getElem?_set]
          by_cases hj : i = j
          · subst hj; simp [hi']
          · simp [hj]
        rw [this]; exact h4
      · intro e he
        rw [hm] at he
        rcases List.mem_or_eq_of_mem_set he with he | rfl
        · exact h5 e he
        · exact h5 es[i] (by simp)
      · rw [hm, List.getElem?_set]
        simp [hi']
theorem estore {M : TypeId} {w : World} {m born : Nat} {l : List (κ × Value)} {k : κ} {v' : Value} (h : Stamp w m ek l k born) {K : World → Prop}
    (hK : ∀ o, (∃ es c, o = .map es c) → Mp (upd w m o) m ek id (put k v' l) → K (upd w m o)) : U Pg (Instr.entryStore M (.map (some m)) (.int .i64 (born : Nat)) v') w K := by
  obtain ⟨es, clock, i, e, v, h1, h2, h3, h4, h5, h6, h7, h8⟩ := h
  have hi : i < es.toList.length := (List.getElem?_eq_some_iff.1 h6).1
  have hi' : i < es.size := by simpa using hi
  have he : es[i] = e := by
    have := (List.getElem?_eq_some_iff.1 h6).2
    simpa using this
  have hfi : es.findIdx? (fun e => (e.born : Int) == (born : Int)) = some i := by
    rw [Array.findIdx?_eq_some_iff_getElem]
    refine ⟨hi', by rw [he, h7]; simp, fun j hj hb => ?_⟩
    have hb : es[j].born = born := Int.ofNat.inj (by simpa using hb)
    have := nodup_get h4 (i := i) (j := j) (a := born) (by rw [List.getElem?_map, h6, Option.map_some, h7]) (by rw [List.getElem?_map, List.getElem?_eq_getElem (by simpa using (by omega : j < es.size))]; simp [hb])
    omega
  have hput : put k v' l = l.set i (k, v') := by
    have hlk : look k l = some v := look_of_mem h3 (List.mem_of_getElem? h8)
    have hfl := findAt_look k l 0
    rw [hlk] at hfl
    obtain ⟨p, hp1, hp2⟩ := Option.map_eq_some_iff.1 hfl
    obtain ⟨j, u⟩ := p
    obtain ⟨n, hn, hln, hp'⟩ := findAt_some hp1
    have hni : n = i := nodup_get h3 (a := k) (by rw [List.getElem?_map, hln]; rfl) (by rw [List.getElem?_map, h8]; rfl)
    rw [hp', hni]
  have hm : (es.modify i fun e => { e with val := v' }).toList = es.toList.set i { key := es[i].key, val := v', born := es[i].born } := by
    apply List.ext_getElem?
    intro j
    simp [Array.getElem?_modify, List.getElem?_set]
    by_cases hj : i = j
    · subst hj; simp [hi']
    · simp [hj]
  refine ⟨upd w m (.map (es.modify i fun e => { e with val := v' }) clock), ?_, hK _ ⟨_, _, rfl⟩ ⟨es.modify i fun e => { e with val := v' }, clock, by simp [h1], ?_, put_nodup h3, ?_, ?_⟩⟩
  · have ha : (asInt (.int .i64 (born : Nat)) : Sem Int).run Pg w = .ok (born : Int) w := rfl
    unfold Instr.entryStore
    simp [run_getO h1, Result.andThen, ha, hfi, run_setO h1]
  · unfold Ents at h2 ⊢
    rw [hm, hput, List.map_set, List.map_set, h2]
    obtain ⟨q, hq, hk, hv⟩ := ents_at h2 h6
    rw [h8] at hq
    injection hq with hq
    subst hq
    have hkk : es[i].key = ek k := by rw [he]; exact hk
    rw [hkk]; rfl
  · rw [hm, List.map_set]
    have : (List.map (fun x => x.born) es.toList).set i es[i].born = List.map (fun x => x.born) es.toList := by
      apply List.ext_getElem?
      intro j
      rw [List.getElem?_set]
      by_cases hj : i = j
      · subst hj; simp [hi']
      · simp [hj]
    rw [this]; exact h4
  · intro e' he'
    rw [hm] at he'
    rcases List.mem_or_eq_of_mem_set he' with he' | rfl
    · exact h5 e' he'
    · exact h5 es[i] (by simp)
end
end Go.Proofs.Ytbcmoikpmmjlkaa
