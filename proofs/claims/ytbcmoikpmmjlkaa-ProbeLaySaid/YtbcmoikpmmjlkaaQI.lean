/- Law 14: lay. -/
import Derived.Test.YtbcmoikpmmjlkaaQH
namespace Go.Proofs.Ytbcmoikpmmjlkaa
open Go Eng
set_option maxRecDepth 100000
theorem KeyM.tmp {w : World} {B r8 : Nat} {x : Pm} {cs : Array Value} {fr : Nat × Nat} (k : KeyM w B x) (h8 : hp w r8 = some (.cells cs 96 fr)) (o : Obj) : KeyM (upd w r8 o) B x :=
  ⟨k.kc.keep fun b o' hb hE _ => by
    rw [upd_ne _ _ _ _ (by rintro rfl; rw [h8] at hb; injection hb with hb; have := hE _ _ _ hb.symm; cases this)]
    exact hb, k.byte, k.len⟩
theorem TbM.tmp {w : World} {B r g seed many r8 : Nat} {L : List Pm} {cs : Array Value} {fr : Nat × Nat} (h : TbM w B r g seed L many) (h8 : hp w r8 = some (.cells cs 96 fr)) (h1 : r8 ≠ r) (h2 : r8 ≠ g) (o : Obj) : TbM (upd w r8 o) B r g seed L many :=
  ⟨by rw [upd_ne _ _ _ _ h1.symm]; exact h.cell, by rw [upd_ne _ _ _ _ h2.symm]; exact h.row, ⟨fun x hx hu => (h.keys.used x hx hu).tmp h8 o, h.keys.zero⟩, h.geR, h.geG⟩
theorem TFr.tmp {r g r8 : Nat} {w z : World} (h : TFr r g w z) (h8 : w.heap.size ≤ r8) (hr : r < w.heap.size) (o : Obj) : TFr r g w (Eng.upd z r8 o) :=
  ⟨fun w0 a b c => bu (h.bel w0 a b c) (by omega) o, fun b o' hb a c => by have := hp_lt hb; rw [upd_ne _ _ _ _ (by omega)]; exact h.blk b o' hb a c, by have := h.size; simpa using this⟩
theorem Ly.tmp {w z : World} {B r g seed many q i m r8 : Nat} {L L' : List Pm} {k : List Nat} {nu one : Pm} {cs : Array Value} {fr : Nat × Nat} (h : Ly w z B r g seed L L' many q i m k nu one) (h8 : hp z r8 = some (.cells cs 96 fr)) (h1 : r8 ≠ r) (h2 : r8 ≠ g) (hw : w.heap.size ≤ r8) (hr : r < w.heap.size) (o : Obj) :
    Ly w (upd z r8 o) B r g seed L L' many q i m k nu one :=
  ⟨h.tb.tmp h8 h1 h2 o, h.len, h.fr.tmp hw hr o, h.ks, fun hu => let ⟨a1, a2, a3, a4⟩ := h.go hu; ⟨a1, a2, a3, a4.tmp h8 o⟩, h.done, h.ofar, h.far, h.src⟩
set_option maxHeartbeats 1000000 in
/-- probe.lay. -/
theorem s65 {w : World} {B r g seed many e : Nat} {L : List Pm} (h : TbM w B r g seed L many) (t : Tb (hm seed L.length) L.length L) (hs : seed < 18446744073709551616) (hl : L.length = 2 ^ e) (he : e ≤ 20) (hn : 8 ≤ L.length) {ka : Option Addr} {kc : Nat} {k : List Nat} {n : Int} (hk : KeyM w B ⟨true, ka, kc, k, n, 0⟩)
    (hno : k ∉ ks L) (hcnt : (ks L).length + 2 ≤ L.length) (hmany : many ≤ 1000) {R : Value → World → Prop}
    (hR : ∀ w' L', TFr r g w w' → TbM w' B r g seed L' (many + 1) → Tb (hm seed L.length) L.length L' → L'.length = L.length → (ks L').Perm (k :: ks L) → (∀ x ∈ L', x.used = true → ∃ y, (y = (⟨true, ka, kc, k, n, 0⟩ : Pm) ∨ y ∈ L) ∧ y.used = true ∧ y.kv = x.kv ∧ y.key = x.key) → R (.tuple #[]) w') :
    F65b (.pointer (some ⟨r, 0, none⟩)) (.slice ka k.length kc) (.int .u64 n) w R := by
  have hp2 : 2 ^ e ≤ 2 ^ 20 := Nat.pow_le_pow_right (by decide) he
  obtain ⟨u, hu⟩ := unused_of rfl hcnt
  have hlen := hk.len
  dsimp only at hlen
  have hkn : k ≠ [] := by rintro rfl; simp at hlen
  have hb : Bs w (.slice ka k.length kc) k := hk.kc.kb.bs hkn
  unfold F65b
  refine c63 (s63 h hs hl he hb hk.byte (by omega) hu fun w1 F b1 hF f1 f2 => ?_)
  have hko : ∀ p, (sl L p).used = true → (sl L p).key ≠ k := fun p hp e => hno ((ks_has (by omega)).2 ⟨p, hp, e⟩)
  obtain ⟨m, hm2, hum⟩ := two_unused rfl hcnt (hm seed L.length k + F)
  have hjl := t.lay (by omega) hko f1 f2 (one := ⟨true, ka, kc, k, n, F⟩) rfl rfl rfl
  simp [-newP_some, -storeW_ptr, -zero_96, -Int.natCast_emod]
  refine newL zero_96 fun r8 w2 b2 hq _ c8 => ?_
  refine st96 (x := ⟨true, ka, kc, k, n, F⟩) c8 ?_
  have c8 : hp (upd w2 r8 (.cells (encPm ⟨true, ka, kc, k, n, F⟩).toArray 96)) r8 = some (.cells (encPm ⟨true, ka, kc, k, n, F⟩).toArray 96) := by simp [c8]
  have b2 : Bel w1 (upd w2 r8 (.cells (encPm ⟨true, ka, kc, k, n, F⟩).toArray 96)) := bu b2 hq _
  generalize upd w2 r8 (.cells (encPm ⟨true, ka, kc, k, n, F⟩).toArray 96) = w3 at c8 b2 ⊢
  have b3 := bt b1 b2
  have h8r : r8 ≠ r := by have := hp_lt (bg b1 h.cell); omega
  have h8g : r8 ≠ g := by have := hp_lt (bg b1 h.row); omega
  have hly : Ly w w3 B r g seed L L many (hm seed L.length k + F) 0 m k ⟨true, ka, kc, k, n, 0⟩ ⟨true, ka, kc, k, n, F⟩ := by
    refine ⟨h.bel b3, rfl, .of_bel b3, ?_, fun _ => ⟨hjl, by omega, hum, ?_⟩, (fun hh => by cases hh), by dsimp only; omega, fun x hx => ?_, fun x hx hxu => ?_⟩
    · rw [ks_cons, if_pos rfl]
    · have := hk.bel b3
      exact ⟨this.kc, this.byte, this.len⟩
    · cases hxu : x.used with
      | false => rw [h.keys.zero x hx hxu]; exact Nat.zero_le _
      | true =>
        obtain ⟨px, _, rfl⟩ := sl_of_mem hx
        have := t.far_lt (by omega) hu hxu
        omega
    · rcases hx with rfl | hx
      · exact ⟨⟨true, ka, kc, k, n, 0⟩, .inl rfl, rfl, rfl, rfl⟩
      · exact ⟨x, .inr hx, hxu, rfl, rfl⟩
  have h8w : w.heap.size ≤ r8 := Nat.le_trans b1.size hq
  have hrw := hp_lt h.cell
  generalize hqe : hm seed L.length k + F = q at *
  clear hjl f1 f2 hF b1 b2 b3 hq hum hko
  refine ⟨fun s z => ∃ (i p : Nat) (one : Pm) (L' : List Pm), s = [.int .i64 (p : Nat)] ∧ p = (q + i) % L.length ∧ hp z r8 = some (.cells (encPm one).toArray 96) ∧ Ly w z B r g seed L L' many q i m k ⟨true, ka, kc, k, n, 0⟩ one,
    fun s _ => L.length - dist L.length (q % L.length) (n0 s 0).toNat, ⟨0, _, _, L, rfl, by rw [Nat.add_zero], c8, hly⟩, ?_⟩
  clear c8 hly
  rintro s z ⟨i, p, one, L', rfl, hpe, c8, hly⟩
  simp [c8, encPm, -newP_some, -storeW_ptr, -zero_96, -Int.natCast_emod]
  refine ifB (fun hu1 => ?_) (fun hu1 => ?_)
  · obtain ⟨hj, him, _, hk1⟩ := hly.go hu1
    have hpl : p < L.length := by rw [hpe]; exact Nat.mod_lt _ (by omega)
    refine join_of fun J14 hJ14 => ?_
    have key14 : ∀ z', hp z' r8 = some (.cells (encPm (sl L' (q + i))).toArray 96) → Ly w z' B r g seed L (L'.set ((q + i) % L.length) one) many q (i + 1) m k ⟨true, ka, kc, k, n, 0⟩ { sl L' (q + i) with far := (sl L' (q + i)).far + 1 } → J14 [] z' := by
      intro z' c8' hly'
      refine hJ14 _ _ ?_
      have hl' : (L'.set ((q + i) % L.length) one).length = 2 ^ e := by rw [hly'.len]; exact hl
      refine c67 (s67 hly'.tb hl' he (p := p) (by omega) ?_)
      rw [hly'.len]
      have hp' : (p + 1) % L.length = (q + (i + 1)) % L.length := by rw [hpe, Nat.add_mod, Nat.mod_mod, ← Nat.add_mod]; rfl
      rw [hp']
      simp [c8', encPm, -newP_some, -storeW_ptr, -zero_96, -Int.natCast_emod]
      have e6 : IntKind.i64.wrap (((sl L' (q + i)).far : Int) + 1) = (((sl L' (q + i)).far + 1 : Nat) : Int) := by
        have := hly.far _ (sl_mem (by rw [hly.len]; omega) (q + i))
        exact i64_succ (by omega)
      refine stC (A := []) (c := encPm (sl L' (q + i))) (j := 3) c8' (by simp) (by simp [encPm]) size_3 rfl rfl ?_
      rw [e6]
      have hly2 := hly'.tmp c8' h8r h8g h8w hrw (.cells ([] ++ (encPm (sl L' (q + i))).set 3 (.int .i64 (((sl L' (q + i)).far + 1 : Nat) : Int))).toArray 96)
      have hdi := dist_eq (n := L.length) (q := q) (i := i) (by omega)
      have hdi1 := dist_eq (n := L.length) (q := q) (i := i + 1) (by omega)
      rw [← hpe] at hdi
      refine ⟨⟨i + 1, _, rfl, rfl, _, by simp [c8', encPm], _, hly2⟩, ?_⟩
      simp only [n0, nthV_zero]
      rw [Int.toNat_natCast, Int.toNat_natCast, hdi, hdi1]
      omega
    have hd := bd (br z)
    have hlyd := hly.bel hd
    have c8d := bg hd c8
    have hk1d := hk1.bel hd
    have hL' : L'.length = L.length := hly.len
    have hp' : ((q + i) % L'.length) = p := by rw [hL', hpe]
    refine drawn' (St0 := fun x => hp x r8 = some (.cells (encPm one).toArray 96) ∧ TbM x B r g seed L' many) ⟨c8d, hlyd.tb⟩ fun St hS => ?_
    refine rdS (fun x hx => ((hS x).1 hx).1) (x := one.kv) rfl ?_
    refine rdS (fun x hx => ((hS x).1 hx).1) (x := .int .i64 (one.far : Nat)) rfl ?_
    refine rdS (fun x hx => ((hS x).1 hx).2.cell) (x := .slice (some ⟨g, 0, none⟩) L'.length L'.length) rfl ?_
    rw [← hp']
    refine rdSlot (fun x hx => ((hS x).1 hx).2.row) (by omega) (q + i) ?_
    refine c81 (s81 hk1d.kc.kb hk1d.byte (hlyd.tb.keys.kb (sl_mem (by omega) (q + i))) fun z1 b1 => ?_)
    have hly1 := hlyd.bel b1
    have c81' := bg b1 c8d
    refine ⟨(hS _).2 ⟨c81', hly1.tb⟩, ?_⟩
    rw [hj.oahead]
    refine ifB (fun _ => ?_) (fun hh => by cases hh)
    clear hS hk1d hlyd c8d
    have hd1 := bd (br z1)
    have hly2 := hly1.bel hd1
    have c82 := bg hd1 c81'
    refine drawn' (St0 := fun x => hp x r = some (.cells #[.int .u64 (seed : Nat), .slice (some ⟨g, 0, none⟩) L'.length L'.length, .int .i64 (many : Nat)] 153) ∧ hp x g = some (.cells (L'.flatMap encPm).toArray 96)) ⟨hly2.tb.cell, hly2.tb.row⟩ fun St hS => ?_
    refine rdS (fun x hx => ((hS x).1 hx).1) (x := .slice (some ⟨g, 0, none⟩) L'.length L'.length) rfl ?_
    refine rdS (fun x hx => ((hS x).1 hx).1) (x := .slice (some ⟨g, 0, none⟩) L'.length L'.length) rfl ?_
    refine rdSlot (fun x hx => ((hS x).1 hx).2) (by omega) (q + i) ?_
    refine ⟨.agg (encPm one).toArray, by rw [c81']; rfl, ?_⟩
    refine ⟨(hS _).2 ⟨hly2.tb.cell, hly2.tb.row⟩, ?_⟩
    refine st96b c82 ?_
    have hly3 := hly2.tmp c82 h8r h8g h8w hrw (.cells (encPm (sl L' (q + i))).toArray 96)
    have c83 : hp (upd z1.drew r8 (.cells (encPm (sl L' (q + i))).toArray 96)) r8 = some (.cells (encPm (sl L' (q + i))).toArray 96) := by simp [c82]
    generalize upd z1.drew r8 (.cells (encPm (sl L' (q + i))).toArray 96) = z3 at hly3 c83 ⊢
    refine ⟨(hS _).2 ⟨hly3.tb.cell, hly3.tb.row⟩, ?_⟩
    refine stSlot hly3.tb.row (Nat.mod_lt _ (by omega)) one ?_
    rw [hL']
    refine key14 _ ?_ (hly3.step hu1 (by omega) (by omega))
    rw [upd_ne _ _ _ _ h8g]; exact c83
  · obtain ⟨htb, _⟩ := hly.done hu1
    have hc := hly.tb.cell
    simp [hc, -Int.natCast_emod]
    have e6 : IntKind.i64.wrap ((many : Int) + 1) = ((many + 1 : Nat) : Int) := i64_succ (by omega)
    rw [e6]
    have hks := hly.ks
    rw [ks_cons, hu1] at hks
    have hfr := TFr.upd (r := r) (g := g) (b := r) z (.inl rfl) (.cells #[.int .u64 (seed : Nat), .slice (some ⟨g, 0, none⟩) L'.length L'.length, .int .i64 ((many + 1 : Nat) : Int)] 153)
    refine hR _ L' (hly.fr.trans hfr) ⟨by simp [hc], ?_, ⟨fun x hx hu => hfr.key hly.tb (hly.tb.keys.used x hx hu), hly.tb.keys.zero⟩, h.geR, h.geG⟩ htb hly.len hks fun x hx => hly.src x (.inr hx)
    rw [upd_ne _ _ _ _ h.ne.symm]; exact hly.tb.row
end Go.Proofs.Ytbcmoikpmmjlkaa
