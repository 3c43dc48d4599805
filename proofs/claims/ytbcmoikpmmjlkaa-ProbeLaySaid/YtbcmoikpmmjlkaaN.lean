/- Links: what New, Add, Head, Ahead, Len and Wrong compute. -/
import Derived.Test.YtbcmoikpmmjlkaaK
import Derived.Laws.IdiomStrings
namespace Go.Proofs.Ytbcmoikpmmjlkaa
open Go Eng
set_option maxRecDepth 100000

/-! ### Drawn regions -/
theorem drawn {St0 : World → Prop} {w : World} {G : (World → Prop) → World → Prop} (h0 : St0 w.drew) (h : ∀ St : World → Prop, (∀ u, St u ↔ St0 u) → G St w.drew) : ∃ St : World → Prop, St w.drew ∧ drewP w fun w => G St w :=
  ⟨St0, h0, h St0 fun _ => Iff.rfl⟩
theorem drawn' {St0 : World → Prop} {w : World} {G : (World → Prop) → Prop} (h0 : St0 w) (h : ∀ St : World → Prop, (∀ u, St u ↔ St0 u) → G St) : ∃ St : World → Prop, St w ∧ G St :=
  ⟨St0, h0, h St0 fun _ => Iff.rfl⟩
theorem readP_iff {St : World → Prop} {b o T : Nat} {X : Obj} (h : ∀ u, St u → hp u b = some X) {w0 : World} (h0 : St w0) (K : Value → Prop) : readP St (loadW Pg T (.pointer (some ⟨b, o, none⟩))) K ↔ getO (ldSh (shapeT Pg T) (some X) o) K := by
  constructor
  · rintro ⟨v, h1, h2⟩
    have := h1 w0 h0
    rw [loadW_ptr, h w0 h0] at this
    exact ⟨v, this, h2⟩
  · rintro ⟨v, h1, h2⟩
    refine ⟨v, fun u hu => ?_, h2⟩
    rw [loadW_ptr, h u hu]
    exact h1
theorem readP_run {St : World → Prop} {s : Sem Value} {v : Value} (h : ∀ u, St u → s.run Pg u = .ok v u) {K : Value → Prop} (k : K v) : readP St (runR Pg s) K := ⟨v, fun u hu => runR_of (h u hu), k⟩
theorem getR {s : Sem Value} {v : Value} {w : World} (h : s.run Pg w = .ok v w) {K : Value → Prop} (k : K v) : getO (runR Pg s w) K := by rw [runR_of h]; exact ⟨v, rfl, k⟩

theorem run_look {κ ν : Type} [DecidableEq κ] {T : TypeId} {ek : κ → Value} {ev : ν → Value} {M E : TypeId} (ho : KeyOk T ek) (hM : Pg.underlying M = some (.map T E)) {z : ν} (hz : zeroT Pg E = some (ev z)) {w : World} {r : Nat} {l : List (κ × ν)} (h : Mp w r ek ev l) (k : κ) (c : Bool) :
    (Instr.lookup M (.map (some r)) (ek k) c).run Pg w = .ok (if c then .tuple #[ev ((look k l).getD z), .bool (look k l).isSome] else ev ((look k l).getD z)) w := by
  rw [run_lookup ho hM hz h k c]
  cases look k l <;> rfl

/-! ### The frame of a call -/
/-- All that was there is as it was, but the blocks of F. -/
structure Fr (F : Nat → Prop) (w w' : World) : Prop where
  os : w'.os = w.os
  tape : w'.tape = w.tape
  output : w'.output = w.output
  size : w.heap.size ≤ w'.heap.size
  block : ∀ k, k < w.heap.size → ¬ F k → hp w' k = hp w k
theorem Fr.refl (F : Nat → Prop) (w : World) : Fr F w w := ⟨rfl, rfl, rfl, Nat.le_refl _, fun _ _ _ => rfl⟩
theorem Fr.of_bel {F : Nat → Prop} {w w' : World} (h : Bel w w') : Fr F w w' := ⟨h.os, h.tape, h.output, h.size, fun k hk _ => h.block k hk⟩
theorem Fr.trans {F : Nat → Prop} {a b c : World} (h : Fr F a b) (k : Fr F b c) : Fr F a c :=
  ⟨k.os.trans h.os, k.tape.trans h.tape, k.output.trans h.output, Nat.le_trans h.size k.size, fun i hi hn => (k.block i (Nat.lt_of_lt_of_le hi h.size) hn).trans (h.block i hi hn)⟩
theorem Fr.mono {F G : Nat → Prop} {w w' : World} (h : Fr F w w') (hg : ∀ b, b < w.heap.size → F b → G b) : Fr G w w' := ⟨h.os, h.tape, h.output, h.size, fun k hk hn => h.block k hk fun hF => hn (hg k hk hF)⟩
theorem Fr.below {F : Nat → Prop} {w w' : World} (h : Fr F w w') {a : World} (ha : Bel a w) (hf : ∀ b, F b → a.heap.size ≤ b) : Bel a w' :=
  ha.trans ⟨h.os, h.tape, h.output, h.size, fun k hk => h.block k (Nat.lt_of_lt_of_le hk ha.size) fun hF => by have := hf k hF; omega⟩
theorem Fr.get {F : Nat → Prop} {w w' : World} (h : Fr F w w') {b : Nat} {o : Obj} (hb : hp w b = some o) (hn : ¬ F b) : hp w' b = some o := (h.block b (hp_lt hb) hn).trans hb
theorem Fr.upd {F : Nat → Prop} {a w : World} (h : Fr F a w) {b : Nat} (hb : F b ∨ a.heap.size ≤ b) (o : Obj) : Fr F a (upd w b o) :=
  ⟨h.os, h.tape, h.output, by simpa using h.size, fun k hk hn => (upd_ne _ _ _ _ (by rintro rfl; rcases hb with hb | hb; exact hn hb; omega)).trans (h.block k hk hn)⟩
theorem Fr.then {F G : Nat → Prop} {a b c : World} (h : Fr F a b) (k : Fr G b c) (hg : ∀ i, i < a.heap.size → G i → F i) : Fr F a c :=
  ⟨k.os.trans h.os, k.tape.trans h.tape, k.output.trans h.output, Nat.le_trans h.size k.size, fun i hi hn => (k.block i (Nat.lt_of_lt_of_le hi h.size) fun hG => hn (hg i hi hG)).trans (h.block i hi hn)⟩
theorem Fr.bel {F : Nat → Prop} {a b c : World} (h : Fr F a b) (k : Bel b c) : Fr F a c := h.then (Fr.of_bel (F := fun _ => False) k) fun _ _ h => h.elim
theorem Fr.drew {F : Nat → Prop} {a b : World} (h : Fr F a b) : Fr F a b.drew := ⟨h.os, h.tape, h.output, h.size, h.block⟩
theorem Fr.ext {F : Nat → Prop} {a b : World} (h : Fr F a b) (l : List Obj) : Fr F a (ext b l) := h.bel (bx' b l)
theorem Fr.grown {F : Nat → Prop} {a b c : World} {row : Option Nat} (h : Fr F a b) (k : b.grownBy c row) (hr : ∀ g, row = some g → F g ∨ a.heap.size ≤ g) : Fr F a c :=
  ⟨k.os.trans h.os, k.tape.trans h.tape, k.output.trans h.output, Nat.le_trans h.size k.size, fun i hi hn => (k.block i (Nat.lt_of_lt_of_le hi h.size) fun e => by
    rcases hr i e.symm with h1 | h1
    · exact hn h1
    · omega).trans (h.block i hi hn)⟩

/-! ### Links -/
structure Hd where
  s : Int
  o : Int
  seq : Int
  kind : Int
  deriving DecidableEq
def evH (h : Hd) : Value := .agg #[.int .u32 h.s, .int .u32 h.o, .int .u64 h.seq, .int .i64 h.kind]
def encL (p : Int × Int) : List Value := [.int .u32 p.1, .int .u32 p.2]
theorem encL_ok : Enc 2 encL := ⟨fun _ => rfl, fun x u hu => by simp [encL] at hu; rcases hu with rfl | rfl <;> rfl, by decide⟩
theorem row34 : RowT 47 34 2 8 := ⟨Try.underlying47, by kernel_rfl⟩
structure Lk where
  p : Nat
  hm : Nat
  am : Nat
  wv : Value
  heads : List (Pr × Hd)
  ahead : List ((Int × Int) × (Int × Int))
  wrong : List (Int × Int)
  last : Int
/-- The blocks of links. -/
def Lk.foot (L : Lk) (b : Nat) : Prop := b = L.p ∨ b = L.hm ∨ b = L.am ∨ L.wv.ownBlock = some b
structure LkOk (w : World) (B : Nat) (L : Lk) : Prop where
  cell : hp w L.p = some (.cells #[.map (some L.hm), .map (some L.am), L.wv, .int .u64 L.last] 128)
  hm : Mp w L.hm ekP evH L.heads
  am : Mp w L.am ekL ekL L.ahead
  wv : Own w B 34 2 encL L.wv L.wrong
  ge : B ≤ L.p ∧ B ≤ L.hm ∧ B ≤ L.am
  ne : L.hm ≠ L.am
theorem LkOk.low {w : World} {B : Nat} {L : Lk} (h : LkOk w B L) : ∀ b, L.foot b → B ≤ b ∧ b < w.heap.size := by
  rintro b (rfl | rfl | rfl | hb)
  · exact ⟨h.ge.1, hp_lt h.cell⟩
  · exact ⟨h.ge.2.1, h.hm.lt⟩
  · exact ⟨h.ge.2.2, h.am.lt⟩
  · exact h.wv.ge hb
theorem LkOk.keep {F : Nat → Prop} {w w' : World} {B : Nat} {L : Lk} (h : LkOk w B L) (k : Fr F w w') (hn : ∀ b, L.foot b → ¬ F b) : LkOk w' B L :=
  ⟨k.get h.cell (hn _ (.inl rfl)), h.hm.keep (k.block _ h.hm.lt (hn _ (.inr (.inl rfl)))), h.am.keep (k.block _ h.am.lt (hn _ (.inr (.inr (.inl rfl))))),
    h.wv.kept fun g hg => k.block g (h.wv.ge hg).2 (hn _ (.inr (.inr (.inr hg)))), h.ge, h.ne⟩
theorem LkOk.bel {w w' : World} {B : Nat} {L : Lk} (h : LkOk w B L) (k : Bel w w') : LkOk w' B L := h.keep (Fr.of_bel (F := fun _ => False) k) fun _ _ h => h
/-- link.New. -/
theorem s11 {w : World} {R : Value → World → Prop} (hR : ∀ w' p hm am, Bel w w' → LkOk w' w.heap.size ⟨p, hm, am, .slice none 0 0, [], [], [], 0⟩ → R (.pointer (some ⟨p, 0, none⟩)) w') : F11 w R := by
  unfold F11
  refine mkmap (mkmap ?_)
  simp
  refine hR _ _ w.heap.size (w.heap.size + 1) (bx' _ _) ⟨by simp, ?_, ?_, Own.nil _ _ _ _ _, ⟨by simp, by simp, by simp⟩, by simp⟩
  · exact ⟨#[], 0, by simp, rfl, List.nodup_nil, List.nodup_nil, by simp⟩
  · exact ⟨#[], 0, by simp, rfl, List.nodup_nil, List.nodup_nil, by simp⟩
/-- Links.none. -/
theorem s45 {w : World} {B : Nat} {L : Lk} (h : LkOk w B L) {R : Value → World → Prop} (hR : R (.bool false) w) : F45 (.pointer (some ⟨L.p, 0, none⟩)) w R := by
  simp [F45, h.cell]
  exact hR
/-- Links.Len. -/
theorem s14 {w : World} {B : Nat} {L : Lk} (h : LkOk w B L) {R : Value → World → Prop} (hR : R (.int .i64 L.ahead.length) w) : F14 (.pointer (some ⟨L.p, 0, none⟩)) w R := by
  unfold F14
  refine c45 (s45 h ?_)
  simp [h.cell]
  refine getR (h.am.len Try.underlying126) ?_
  exact hR
/-- Links.Head. -/
theorem s13 {w : World} {B : Nat} {L : Lk} (h : LkOk w B L) {v : Value} {k : List Nat} (hb : Bs w v k) (hk : ∀ x ∈ k, x < 256) (h1 : 1 ≤ k.length) (h2 : k.length ≤ 64) {R : Value → World → Prop}
    (hR : ∀ w', Bel w w' → R (.tuple #[evH ((look (prOf k) L.heads).getD ⟨0, 0, 0, 0⟩), .bool (look (prOf k) L.heads).isSome]) w') : F13 (.pointer (some ⟨L.p, 0, none⟩)) v w R := by
  unfold F13
  simp
  have hw0 := bx' w [.cells #[.int .u32 0, .int .u32 0, .int .u64 0, .int .i64 0] 42]
  have hL := h.bel hw0
  have hb0 := hb.bel hw0
  have g0 : hp (ext w [.cells #[.int .u32 0, .int .u32 0, .int .u64 0, .int .i64 0] 42]) w.heap.size = some (.cells #[.int .u32 0, .int .u32 0, .int .u64 0, .int .i64 0] 42) := by simp
  generalize ext w [.cells #[.int .u32 0, .int .u32 0, .int .u64 0, .int .i64 0] 42] = u at hw0 hL hb0 g0
  refine c45 (s45 hL ?_)
  simp
  obtain ⟨bb, off, c, rfl, hc, hat⟩ := id hb0
  refine c50 (s50 ?_)
  simp [h1, h2]
  have hLd := hL.bel (bd (br u))
  have hbd := hb0.bel (bd (br u))
  refine drawn' (St0 := fun u => LkOk u B L ∧ Bs u (.slice (some ⟨bb, off, none⟩) k.length c) k) ⟨hLd, hbd⟩ fun St hS => ?_
  rw [readP_iff (fun u hu => ((hS u).1 hu).1.cell) ((hS u.drew).2 ⟨hLd, hbd⟩)]
  simp
  have hD := bd (br u)
  have hsz : u.heap.size = u.drew.heap.size := rfl
  rw [hsz]
  have hlt := hp_lt g0
  rw [hsz] at hlt
  generalize u.drew = u2 at hLd hbd hD hlt ⊢
  have hw2 := bt hw0 hD
  have g2 := bg hD g0
  constructor
  · refine c49 (s49 hbd hk h1 h2 fun w1 h3 => ?_)
    refine ⟨(hS _).2 ⟨hLd.bel h3, hbd.bel h3⟩, ?_⟩
    refine readP_run (fun u hu => run_look (z := ⟨0, 0, 0, 0⟩) keyP Try.underlying125 zero_42 ((hS u).1 hu).1.hm _ true) ?_
    simp [evH]
    have hw3 := bt hw2 h3
    refine ⟨(hS _).2 ⟨hLd.bel (bx h3 _), hbd.bel (bx h3 _)⟩, ?_⟩
    simp [bg h3 g2]
    refine readW_of ?_
    simp [bg h3 g2]
    exact hR _ (bx (bu hw3 (Nat.le_refl _) _) _)
  · refine ⟨(hS _).2 ⟨hLd.bel (bx' _ _), hbd.bel (bx' _ _)⟩, ?_⟩
    have g3 : hp (ext u2 [.cells #[.int .u32 0, .int .u32 0, .int .u64 0, .int .i64 0] 42]) u2.heap.size = some (.cells #[.int .u32 0, .int .u32 0, .int .u64 0, .int .i64 0] 42) := by simp
    refine c49 (s49 (hbd.bel (bx' _ _)) hk h1 h2 fun w1 h3 => ?_)
    have h4 := bt (bx' u2 _) h3
    refine ⟨(hS _).2 ⟨hLd.bel h4, hbd.bel h4⟩, ?_⟩
    refine readP_run (fun u hu => run_look (z := ⟨0, 0, 0, 0⟩) keyP Try.underlying125 zero_42 ((hS u).1 hu).1.hm _ true) ?_
    simp [evH, bg h3 g3, bg h4 g2]
    have hne : w.heap.size ≠ u2.heap.size := by omega
    simp [hne, hne.symm, bg h3 g3, bg h4 g2]
    refine readW_of ?_
    simp [hne, hne.symm, bg h3 g3, bg h4 g2]
    exact hR _ (bu (bu (bt hw2 h4) (by omega) _) (Nat.le_refl _) _)

/-! ### Bytes and strings -/
def strOf (k : List Nat) : ByteArray := ⟨(k.map UInt8.ofNat).toArray⟩
theorem strOf_size (k : List Nat) : (strOf k).size = k.length := by simp [strOf, ByteArray.size]
theorem conv_to {k : List Nat} (hk : ∀ x ∈ k, x < 256) {w : World} {K : Value → World → Prop} (hK : ∀ w' c, Bel w w' → Bs w' (.slice (some ⟨w.heap.size, 0, none⟩) k.length c) k → (∃ cs fr, hp w' w.heap.size = some (.cells cs 5 fr)) → w'.heap.size = w.heap.size + 1 → K (.slice (some ⟨w.heap.size, 0, none⟩) k.length c) w') :
    S Pg (convert 9 36 (.string (strOf k))) w K := by
  have h := Lib.run_convert_string_bytes (P := Pg) w 9 36 5 (strOf k) Try.underlying9 Try.underlying36 Try.underlying5
  rw [strOf_size] at h
  refine (S_of h).2 (hK _ _ ⟨rfl, rfl, rfl, ?_, fun j hj => Lib.bytesWorld_at_old w 5 _ j hj⟩ ⟨_, _, _, rfl, ?_, _, _, _, Lib.bytesWorld_at_new w 5 _, ?_⟩ ⟨_, _, Lib.bytesWorld_at_new w 5 _⟩ (Lib.bytesWorld_size w 5 _))
  · rw [Lib.bytesWorld_size]; omega
  · have := grownCap_ge w k.length 0 5
    exact this
  · intro j y hy
    rw [byC, List.getElem?_map] at hy
    obtain ⟨x, hx, rfl⟩ := Option.map_eq_some_iff.1 hy
    have hj := (List.getElem?_eq_some_iff.1 hx).1
    have hx' : k[j] = x := (List.getElem?_eq_some_iff.1 hx).2
    have hlt := hk x (List.mem_of_getElem? hx)
    have hsz : (strOf k).size = k.length := strOf_size k
    have hd : (strOf k).data[j]? = some (UInt8.ofNat x) := by simp [strOf, hx]
    rw [Nat.zero_add]
    unfold Lib.bytesCells
    rw [Array.getElem?_append_left (by simp [strOf]; exact hj), Array.getElem?_map, hd]
    simp
    omega
theorem conv_back {w : World} {v : Value} {k : List Nat} (hb : Bs w v k) (hk : ∀ x ∈ k, x < 256) {K : Value → Prop} (h : K (.string (strOf k))) : getO (runR Pg (convert 36 9 v) w) K := by
  obtain ⟨b, o, c, rfl, hc, cs, E, fr, h1, h2⟩ := hb
  refine getR ?_ h
  have := run_convert_bytes_back (P := Pg) w 36 9 5 ⟨b, o, none⟩ c (k.map UInt8.ofNat) Try.underlying36 Try.underlying5 Try.underlying9 ?_
  · simpa [strOf] using this
  · intro j hj
    have hj' : j < k.length := by simpa using hj
    have hx := h2 j (.int .u8 (k[j] : Nat)) (by simp [byC, hj'])
    have hlt := hk k[j] (List.getElem_mem hj')
    have hh : w.heap[b]? = some (.cells cs E fr) := h1
    have e1 : (UInt8.ofNat k[j]).toNat = k[j] := by simp; omega
    have e2 : ((k.map UInt8.ofNat)[j].toNat : Int) = (k[j] : Nat) := by simp only [List.getElem_map]; rw [e1]
    rw [e2, addr_add]
    simp [World.cell?, hh, hx]
/-- law18.at: a loc of segment 1. -/
theorem s52 {w : World} {o : Int} {R : Value → World → Prop} (hR : ∀ w', Bel w w' → R (.agg #[.int .u32 1, .int .u32 o]) w') : F52 (.int .u32 o) w R := by
  unfold F52
  simp
  refine readW_of ?_
  simp
  exact hR _ (bx' _ _)
/-- law18.put. -/
theorem s44 {w : World} {seq off ps po : Int} {k : List Nat} (hk : ∀ x ∈ k, x < 256) {R : Value → World → Prop}
    (hR : ∀ w' kb c, Bel w w' → w.heap.size ≤ kb → Bs w' (.slice (some ⟨kb, 0, none⟩) k.length c) k → (∃ cs fr, hp w' kb = some (.cells cs 5 fr)) →
      R (.agg #[.int .u32 1, .int .u32 off, .int .i64 0, .int .u64 seq, .int .i64 1, .slice (some ⟨kb, 0, none⟩) k.length c, .slice none 0 0, .int .u32 ps, .int .u32 po]) w') :
    F44 (.int .u64 seq) (.string (strOf k)) (.int .u32 off) (.agg #[.int .u32 ps, .int .u32 po]) w R := by
  unfold F44
  simp
  have hw0 := bx' w [.cells #[.int .u32 ps, .int .u32 po] 34, .cells #[.int .u32 0, .int .u32 0, .int .i64 0, .int .u64 0, .int .i64 0, .slice none 0 0, .slice none 0 0, .int .u32 0, .int .u32 0] 40]
  have g0 : hp (ext w [.cells #[.int .u32 ps, .int .u32 po] 34, .cells #[.int .u32 0, .int .u32 0, .int .i64 0, .int .u64 0, .int .i64 0, .slice none 0 0, .slice none 0 0, .int .u32 0, .int .u32 0] 40]) w.heap.size = some (.cells #[.int .u32 ps, .int .u32 po] 34) := by simp
  have g1 : hp (ext w [.cells #[.int .u32 ps, .int .u32 po] 34, .cells #[.int .u32 0, .int .u32 0, .int .i64 0, .int .u64 0, .int .i64 0, .slice none 0 0, .slice none 0 0, .int .u32 0, .int .u32 0] 40]) (w.heap.size + 1) = some (.cells #[.int .u32 0, .int .u32 0, .int .i64 0, .int .u64 0, .int .i64 0, .slice none 0 0, .slice none 0 0, .int .u32 0, .int .u32 0] 40) := by simp
  rw [← drew_ext]
  generalize ext w [.cells #[.int .u32 ps, .int .u32 po] 34, .cells #[.int .u32 0, .int .u32 0, .int .i64 0, .int .u64 0, .int .i64 0, .slice none 0 0, .slice none 0 0, .int .u32 0, .int .u32 0] 40] = u at hw0 g0 g1
  have hD := bd (br u)
  have g0 := bg hD g0
  have g1 := bg hD g1
  have hl1 := hp_lt g1
  have hw1 := bt hw0 hD
  refine drawn' (St0 := fun u => hp u w.heap.size = some (.cells #[.int .u32 ps, .int .u32 po] 34)) g0 fun St hS => ?_
  rw [readP_iff (fun u hu => (hS u).1 hu) ((hS u.drew).2 g0)]
  generalize u.drew = u2 at g0 g1 hw1 hl1
  simp
  constructor
  · refine c52 (s52 fun w1 h1 => ⟨(hS _).2 (bg h1 g0), ?_⟩)
    refine conv_to hk fun w2 c h2 hb h5 hs => ⟨(hS _).2 (bg h2 (bg h1 g0)), ?_⟩
    have h12 := bt h1 h2
    have hsz := h1.size
    simp [bg h12 g1]
    refine readW_of ?_
    simp [bg h12 g1]
    exact hR _ _ _ (bu (bt hw1 h12) (by omega) _) (by omega) (by
      obtain ⟨b, o, c', e1, e2, e3⟩ := hb
      injection e1 with e1 e4 e5
      injection e1 with e1
      injection e1 with e1 e6 e7
      subst e1; subst e5; subst e6
      exact ⟨_, _, _, rfl, e2, e3.of_hp (upd_ne _ _ _ _ (by omega))⟩) (by
      obtain ⟨cs, fr, h5⟩ := h5
      exact ⟨cs, fr, (upd_ne _ _ _ _ (by omega)).trans h5⟩)
  · refine conv_to hk fun w2 c h2 hb h5 hs => ⟨(hS _).2 (bg h2 g0), ?_⟩
    simp
    refine c52 (s52 fun w1 h1 => ⟨(hS _).2 (bg h1 (bg h2 g0)), ?_⟩)
    have h12 := bt h2 h1
    simp [bg h12 g1]
    refine readW_of ?_
    simp [bg h12 g1]
    have hb := hb.bel h1
    exact hR _ _ _ (bu (bt hw1 h12) (by omega) _) (by omega) (by
      obtain ⟨b, o, c', e1, e2, e3⟩ := hb
      injection e1 with e1 e4 e5
      injection e1 with e1
      injection e1 with e1 e6 e7
      subst e1; subst e5; subst e6
      exact ⟨_, _, _, rfl, e2, e3.of_hp (upd_ne _ _ _ _ (by omega))⟩) (by
      obtain ⟨cs, fr, h5⟩ := h5
      exact ⟨cs, fr, (upd_ne _ _ _ _ (by omega)).trans (bg h1 h5)⟩)
/-- Where a key's newest record lies. -/
def bef (L : Lk) (k : List Nat) : Int × Int := match look (prOf k) L.heads with | some h => (h.s, h.o) | none => (0, 0)
theorem bef_eq (L : Lk) (k : List Nat) : bef L k = (((look (prOf k) L.heads).getD ⟨0, 0, 0, 0⟩).s, ((look (prOf k) L.heads).getD ⟨0, 0, 0, 0⟩).o) := by
  unfold bef
  cases look (prOf k) L.heads <;> rfl
@[simp] theorem fieldV_42_0 (a b c d : Int) (K : Value → Prop) : pureP Pg (Instr.field 42 (.agg #[.int .u32 a, .int .u32 b, .int .u64 c, .int .i64 d]) 0) K ↔ K (.agg #[.int .u32 a, .int .u32 b]) := pureP_of fun w => by
  unfold Instr.field
  simp [go_sem, asAgg]
theorem LkOk.nes {w : World} {B : Nat} {L : Lk} (h : LkOk w B L) : L.p ≠ L.hm ∧ L.p ≠ L.am ∧ some L.p ≠ L.wv.ownBlock ∧ some L.hm ≠ L.wv.ownBlock ∧ some L.am ≠ L.wv.ownBlock := by
  obtain ⟨es, cl, e2, _⟩ := h.hm
  obtain ⟨es', cl', e3, _⟩ := h.am
  refine ⟨?_, ?_, h.wv.ne h.cell (by intro cur e; cases e), h.wv.ne e2 (by intro cur e; cases e), h.wv.ne e3 (by intro cur e; cases e)⟩
  · intro e; rw [← e, h.cell] at e2; cases e2
  · intro e; rw [← e, h.cell] at e3; cases e3
theorem LkOk.setAm {w : World} {B : Nat} {L : Lk} (h : LkOk w B L) {o : Obj} {l : List ((Int × Int) × (Int × Int))} (hm : Mp (upd w L.am o) L.am ekL ekL l) : LkOk (upd w L.am o) B { L with ahead := l } := by
  obtain ⟨n1, n2, n3, n4, n5⟩ := h.nes
  exact ⟨(upd_ne _ _ _ _ n2).trans h.cell, h.hm.keep (upd_ne _ _ _ _ h.ne), hm, h.wv.kept fun g hg => upd_ne _ _ _ _ (by rintro rfl; exact n5 hg.symm), h.ge, h.ne⟩
theorem LkOk.setHm {w : World} {B : Nat} {L : Lk} (h : LkOk w B L) {o : Obj} {l : List (Pr × Hd)} (hm : Mp (upd w L.hm o) L.hm ekP evH l) : LkOk (upd w L.hm o) B { L with heads := l } := by
  obtain ⟨n1, n2, n3, n4, n5⟩ := h.nes
  exact ⟨(upd_ne _ _ _ _ n1).trans h.cell, hm, h.am.keep (upd_ne _ _ _ _ h.ne.symm), h.wv.kept fun g hg => upd_ne _ _ _ _ (by rintro rfl; exact n4 hg.symm), h.ge, h.ne⟩
theorem LkOk.setLast {w : World} {B : Nat} {L : Lk} (h : LkOk w B L) (n : Int) : LkOk (upd w L.p (.cells #[.map (some L.hm), .map (some L.am), L.wv, .int .u64 n] 128)) B { L with last := n } := by
  obtain ⟨n1, n2, n3, n4, n5⟩ := h.nes
  exact ⟨by simp [h.cell], h.hm.keep (upd_ne _ _ _ _ n1.symm), h.am.keep (upd_ne _ _ _ _ n2.symm), h.wv.kept fun g hg => upd_ne _ _ _ _ (by rintro rfl; exact n3 hg.symm), h.ge, h.ne⟩
/-- Links.Add, of a record that may be added. -/
theorem s12 {w : World} {B : Nat} {L : Lk} (h : LkOk w B L) {s o z seq kind ps po : Int} {kv : Value} {k : List Nat} (hb : Bs w kv k) (hk : ∀ x ∈ k, x < 256) (h1 : 1 ≤ k.length) (h2 : k.length ≤ 64)
    (hkind : kind = 1 ∨ kind = 2) (hseq : 1 ≤ seq ∧ seq ≤ 1099511627776) (hlast : L.last < seq) (hpr : locMay ps po = true) (hat : 1 ≤ s ∧ s ≤ 16777215 ∧ 16 ≤ o ∧ o ≤ 16777216) (hno : look (s, o) L.ahead = none) (hB : B ≤ w.heap.size) (hlen : L.wrong.length ≤ 1000000)
    {R : Value → World → Prop}
    (hR : ∀ w' L', LkOk w' B L' → L'.p = L.p → L'.heads = put (prOf k) ⟨s, o, seq, kind⟩ L.heads → L'.ahead = put (s, o) (bef L k) L.ahead → L'.wrong = (if bef L k = (ps, po) then L.wrong else L.wrong ++ [(s, o)]) → L'.last = seq →
      Fr L.foot w w' → (∀ b, L'.foot b → L.foot b ∨ w.heap.size ≤ b) → R (.int .i64 0) w') :
    F12 (.pointer (some ⟨L.p, 0, none⟩)) (.agg #[.int .u32 s, .int .u32 o, .int .i64 z, .int .u64 seq, .int .i64 kind, kv, .slice none 0 0, .int .u32 ps, .int .u32 po]) w R := by
  obtain ⟨bb, off, c, rfl, hc, hbat⟩ := id hb
  unfold F12
  simp
  have hw0 := bx' w [.cells #[.int .u32 s, .int .u32 o, .int .i64 z, .int .u64 seq, .int .i64 kind, .slice (some ⟨bb, off, none⟩) k.length c, .slice none 0 0, .int .u32 ps, .int .u32 po] 40]
  have g0 : hp (ext w [.cells #[.int .u32 s, .int .u32 o, .int .i64 z, .int .u64 seq, .int .i64 kind, .slice (some ⟨bb, off, none⟩) k.length c, .slice none 0 0, .int .u32 ps, .int .u32 po] 40]) w.heap.size = some (.cells #[.int .u32 s, .int .u32 o, .int .i64 z, .int .u64 seq, .int .i64 kind, .slice (some ⟨bb, off, none⟩) k.length c, .slice none 0 0, .int .u32 ps, .int .u32 po] 40) := by simp
  have hL := h.bel hw0
  have hb0 := hb.bel hw0
  generalize ext w [.cells #[.int .u32 s, .int .u32 o, .int .i64 z, .int .u64 seq, .int .i64 kind, .slice (some ⟨bb, off, none⟩) k.length c, .slice none 0 0, .int .u32 ps, .int .u32 po] 40] = u at hw0 hL hb0 g0
  refine c45 (s45 hL ?_)
  simp [g0]
  have hw1 : Bel u (ext u.drew [.cells #[.int .u64 seq, .int .i64 kind, .slice (some ⟨bb, off, none⟩) k.length c, .slice none 0 0, .int .u32 ps, .int .u32 po] 38]) := bx (bd (br u)) _
  have g1 : hp (ext u.drew [.cells #[.int .u64 seq, .int .i64 kind, .slice (some ⟨bb, off, none⟩) k.length c, .slice none 0 0, .int .u32 ps, .int .u32 po] 38]) u.heap.size = some (.cells #[.int .u64 seq, .int .i64 kind, .slice (some ⟨bb, off, none⟩) k.length c, .slice none 0 0, .int .u32 ps, .int .u32 po] 38) := by
    rw [ext_get, show hp u.drew u.heap.size = none from hp_size u, show u.heap.size - u.drew.heap.size = 0 from Nat.sub_self _]; rfl
  have g0 := bg hw1 g0
  have hL := hL.bel hw1
  have hb0 := hb0.bel hw1
  have hw1 := bt hw0 hw1
  have hfr : w.heap.size < u.heap.size := by
    rcases Nat.lt_or_ge w.heap.size u.heap.size with h | h
    · exact h
    · have := hw0.size; have e : w.heap.size = u.heap.size := by omega
      rw [e] at g0; have := g1.symm.trans g0; injection this with this; injection this; contradiction
  generalize ext u.drew [.cells #[.int .u64 seq, .int .i64 kind, .slice (some ⟨bb, off, none⟩) k.length c, .slice none 0 0, .int .u32 ps, .int .u32 po] 38] = u1 at g0 g1 hL hb0 hw1
  generalize u.heap.size = r at g1 hfr ⊢
  have hS0 : ∀ {a : World}, Bel u1 a → hp a w.heap.size = some (.cells #[.int .u32 s, .int .u32 o, .int .i64 z, .int .u64 seq, .int .i64 kind, .slice (some ⟨bb, off, none⟩) k.length c, .slice none 0 0, .int .u32 ps, .int .u32 po] 40) ∧ hp a r = some (.cells #[.int .u64 seq, .int .i64 kind, .slice (some ⟨bb, off, none⟩) k.length c, .slice none 0 0, .int .u32 ps, .int .u32 po] 38) ∧ LkOk a B L := fun hb => ⟨bg hb g0, bg hb g1, hL.bel hb⟩
  refine drawn' (St0 := fun a => hp a w.heap.size = some (.cells #[.int .u32 s, .int .u32 o, .int .i64 z, .int .u64 seq, .int .i64 kind, .slice (some ⟨bb, off, none⟩) k.length c, .slice none 0 0, .int .u32 ps, .int .u32 po] 40) ∧ hp a r = some (.cells #[.int .u64 seq, .int .i64 kind, .slice (some ⟨bb, off, none⟩) k.length c, .slice none 0 0, .int .u32 ps, .int .u32 po] 38) ∧ LkOk a B L) (hS0 (br u1)) fun St hS => ?_
  have q0 := fun a ha => ((hS a).1 ha).1
  have q1 := fun a ha => ((hS a).1 ha).2.1
  have q2 := fun a ha => ((hS a).1 ha).2.2.cell
  have hSu := (hS _).2 (hS0 (br u1))
  simp [readP_iff q0 hSu, readP_iff q1 hSu, readP_iff q2 hSu]
  refine c46 (s46 fun w1 h3 => ⟨(hS _).2 (hS0 h3), ?_⟩)
  have hmay : (decide ((kind = 1 ∨ kind = 2 ∧ (0 : Nat) = 0) ∧ 1 ≤ seq ∧ seq ≤ 1099511627776 ∧ 1 ≤ k.length ∧ k.length ≤ 64 ∧ (0 : Nat) ≤ 1024) && locMay ps po) = true := by
    rw [hpr, Bool.and_true]
    exact decide_eq_true ⟨by omega, by omega, by omega, by omega, by omega, by omega⟩
  rw [hmay]
  simp [show ¬ (seq ≤ L.last) by omega]
  refine c47 (s47 fun w2 h4 => ⟨(hS _).2 (hS0 (bt h3 h4)), ?_⟩)
  have hmay2 : locMay s o = true := decide_eq_true (.inr hat)
  simp [hmay2]
  refine c48 (s48 fun w3 h5 => ⟨(hS _).2 (hS0 (bt h3 (bt h4 h5))), ?_⟩)
  simp [show ¬ (s = 0 ∧ o = 0) by omega]
  have h35 := bt h3 (bt h4 h5)
  clear h3 h4 h5 hS q0 q1 q2 hSu
  have hd3 := bd h35
  refine drawn' (St0 := fun a => hp a w.heap.size = some (.cells #[.int .u32 s, .int .u32 o, .int .i64 z, .int .u64 seq, .int .i64 kind, .slice (some ⟨bb, off, none⟩) k.length c, .slice none 0 0, .int .u32 ps, .int .u32 po] 40) ∧ hp a r = some (.cells #[.int .u64 seq, .int .i64 kind, .slice (some ⟨bb, off, none⟩) k.length c, .slice none 0 0, .int .u32 ps, .int .u32 po] 38) ∧ LkOk a B L) (hS0 hd3) fun St hS => ?_
  have q0 := fun a ha => ((hS a).1 ha).1
  have q2 := fun a ha => ((hS a).1 ha).2.2.cell
  have hSu := (hS _).2 (hS0 hd3)
  simp [readP_iff q0 hSu, readP_iff q2 hSu]
  refine readP_run (fun a ha => run_look (k := (s, o)) (z := ((0 : Int), (0 : Int))) keyL Try.underlying126 zero_34 ((hS a).1 ha).2.2.am true) ?_
  simp [hno, ekL]
  have hw4 : Bel u1 (ext w3.drew [.cells #[.int .u32 0, .int .u32 0] 34]) := bx hd3 _
  refine ⟨(hS _).2 (hS0 hw4), ?_⟩
  clear hS q0 q2 hSu
  have e1 := (hS0 h35).2.1
  simp [e1]
  generalize ext w3.drew [.cells #[.int .u32 0, .int .u32 0] 34] = w4 at hw4
  refine c49 (s49 (hb0.bel hw4) hk h1 h2 fun w5 h6 => ?_)
  have hw5 := bt hw4 h6
  have hw6 : Bel u1 (ext w5 [.cells #[.int .u8 (prOf k).n, .int .u64 (prOf k).a, .int .u64 (prOf k).b, .int .u64 (prOf k).c, .int .u64 (prOf k).d, .int .u64 (prOf k).e, .int .u64 (prOf k).f, .int .u64 (prOf k).g, .int .u64 (prOf k).h] 133]) := bx hw5 _
  have g2 : hp (ext w5 [.cells #[.int .u8 (prOf k).n, .int .u64 (prOf k).a, .int .u64 (prOf k).b, .int .u64 (prOf k).c, .int .u64 (prOf k).d, .int .u64 (prOf k).e, .int .u64 (prOf k).f, .int .u64 (prOf k).g, .int .u64 (prOf k).h] 133]) w5.heap.size = some (.cells #[.int .u8 (prOf k).n, .int .u64 (prOf k).a, .int .u64 (prOf k).b, .int .u64 (prOf k).c, .int .u64 (prOf k).d, .int .u64 (prOf k).e, .int .u64 (prOf k).f, .int .u64 (prOf k).g, .int .u64 (prOf k).h] 133) := by simp
  simp [ekP, -ext_get, -ext_size, -ext_ext, -upd_ext, -drew_ext]
  have hsz5 : w5.heap.size < (ext w5 [.cells #[.int .u8 (prOf k).n, .int .u64 (prOf k).a, .int .u64 (prOf k).b, .int .u64 (prOf k).c, .int .u64 (prOf k).d, .int .u64 (prOf k).e, .int .u64 (prOf k).f, .int .u64 (prOf k).g, .int .u64 (prOf k).h] 133]).heap.size := by simp
  have hu15 := hw5.size
  generalize ext w5 [.cells #[.int .u8 (prOf k).n, .int .u64 (prOf k).a, .int .u64 (prOf k).b, .int .u64 (prOf k).c, .int .u64 (prOf k).d, .int .u64 (prOf k).e, .int .u64 (prOf k).f, .int .u64 (prOf k).g, .int .u64 (prOf k).h] 133] = w6 at hw6 g2 hsz5 ⊢
  generalize w5.heap.size = b8 at g2 hsz5 hu15 ⊢
  have g0 := bg hw6 g0
  have g1 := bg hw6 g1
  have hL := hL.bel hw6
  have hw6 := bt hw1 hw6
  clear hw5 hw4 h6 h35 hd3 hS0 e1 hmay hmay2 hb0
  refine drawn' (St0 := Bel w6) (bd (br w6)) fun St hS => ?_
  have hSu := (hS w6.drew).2 (bd (br w6))
  simp [readP_iff (fun a ha => (hL.bel ((hS a).1 ha)).cell) hSu, readP_iff (fun a ha => bg ((hS a).1 ha) g2) hSu, -ext_get, -ext_size, -ext_ext, -upd_ext, -drew_ext]
  refine readP_run (fun a ha => run_look (k := prOf k) (z := ⟨0, 0, 0, 0⟩) keyP Try.underlying125 zero_42 (hL.bel ((hS a).1 ha)).hm false) ?_
  simp [evH, -ext_get, -ext_size, -ext_ext, -upd_ext, -drew_ext]
  have hbe : ((look (prOf k) L.heads).getD ⟨0, 0, 0, 0⟩).s = (bef L k).1 ∧ ((look (prOf k) L.heads).getD ⟨0, 0, 0, 0⟩).o = (bef L k).2 := by rw [bef_eq]; exact ⟨rfl, rfl⟩
  rw [hbe.1, hbe.2]
  refine ⟨(hS _).2 (bx (bd (br w6)) _), ?_⟩
  have hw7 : Bel w6 (ext w6.drew [.cells #[.int .u32 (bef L k).1, .int .u32 (bef L k).2] 34]) := bx (bd (br w6)) _
  have g3 : hp (ext w6.drew [.cells #[.int .u32 (bef L k).1, .int .u32 (bef L k).2] 34]) w6.heap.size = some (.cells #[.int .u32 (bef L k).1, .int .u32 (bef L k).2] 34) := by
    rw [ext_get, show hp w6.drew w6.heap.size = none from hp_size w6, show w6.heap.size - w6.drew.heap.size = 0 from Nat.sub_self _]; rfl
  have hl6 := hp_lt g1
  have hl5 := hw6.size
  have g0 := bg hw7 g0
  have g1 := bg hw7 g1
  have g2 := bg hw7 g2
  have hL := hL.bel hw7
  have hw7 := bt hw6 hw7
  clear hS hSu
  generalize ext w6.drew [.cells #[.int .u32 (bef L k).1, .int .u32 (bef L k).2] 34] = w7 at g0 g1 g2 g3 hL hw7 ⊢
  generalize w6.heap.size = b9 at g3 hl6 hsz5 hl5 ⊢
  have hlow := h.low
  refine join_of fun J hJ => ?_
  have key : ∀ w8 wv', LkOk w8 B { L with wv := wv', wrong := if bef L k = (ps, po) then L.wrong else L.wrong ++ [(s, o)] } → Fr L.foot w w8 → (∀ b, wv'.ownBlock = some b → L.foot b ∨ w.heap.size ≤ b) →
      (hp w8 w.heap.size = some (.cells #[.int .u32 s, .int .u32 o, .int .i64 z, .int .u64 seq, .int .i64 kind, .slice (some ⟨bb, off, none⟩) k.length c, .slice none 0 0, .int .u32 ps, .int .u32 po] 40)) →
      (hp w8 r = some (.cells #[.int .u64 seq, .int .i64 kind, .slice (some ⟨bb, off, none⟩) k.length c, .slice none 0 0, .int .u32 ps, .int .u32 po] 38)) →
      (hp w8 b8 = some (.cells #[.int .u8 (prOf k).n, .int .u64 (prOf k).a, .int .u64 (prOf k).b, .int .u64 (prOf k).c, .int .u64 (prOf k).d, .int .u64 (prOf k).e, .int .u64 (prOf k).f, .int .u64 (prOf k).g, .int .u64 (prOf k).h] 133)) →
      (hp w8 b9 = some (.cells #[.int .u32 (bef L k).1, .int .u32 (bef L k).2] 34)) → J [] w8 := by
    intro w8 wv' hL8 hF8 hwv g0 g1 g2 g3
    refine hJ _ _ ?_
    refine drawn' (St0 := Bel w8) (bd (br w8)) fun St hS => ?_
    have hSu := (hS w8.drew).2 (bd (br w8))
    simp [readP_iff (fun a ha => (hL8.bel ((hS a).1 ha)).cell) hSu, readP_iff (fun a ha => bg ((hS a).1 ha) g0) hSu, readP_iff (fun a ha => bg ((hS a).1 ha) g3) hSu]
    have hLd := hL8.bel (bd (br w8))
    have hFd := hF8.drew
    have hd := bd (br w8)
    have g0 := bg hd g0
    have g1 := bg hd g1
    have g2 := bg hd g2
    generalize w8.drew = w9 at hLd hFd g0 g1 g2 ⊢
    have l1 := (hlow L.p (.inl rfl)).2
    have l2 := (hlow L.hm (.inr (.inl rfl))).2
    have l3 := (hlow L.am (.inr (.inr (.inl rfl)))).2
    refine mupd (k := (s, o)) (v := bef L k) (ek := ekL) (ev := ekL) keyL Try.underlying126 hLd.am ?_
    rintro o1 _ hm1
    have hL1 := hLd.setAm hm1
    have hF1 := hFd.upd (b := L.am) (.inl (.inr (.inr (.inl rfl)))) o1
    have u0 : ∀ {b X}, hp w9 b = some X → w.heap.size ≤ b → hp (upd w9 L.am o1) b = some X := fun hb hle => (upd_ne _ _ _ _ (by omega)).trans hb
    have g0 := u0 g0 (Nat.le_refl _)
    have g1 := u0 g1 (by omega)
    have g2 := u0 g2 (by have := hw1.size; omega)
    dsimp only at hL1 ⊢
    generalize upd w9 L.am o1 = w10 at hL1 hF1 g0 g1 g2 ⊢
    refine drawn' (St0 := Bel w10) (bd (br w10)) fun St hS => ?_
    have hSu := (hS w10.drew).2 (bd (br w10))
    simp [readP_iff (fun a ha => (hL1.bel ((hS a).1 ha)).cell) hSu, readP_iff (fun a ha => bg ((hS a).1 ha) g0) hSu, readP_iff (fun a ha => bg ((hS a).1 ha) g1) hSu, readP_iff (fun a ha => bg ((hS a).1 ha) g2) hSu]
    have hd := bd (br w10)
    have hLd := hL1.bel hd
    have hFd := hF1.drew
    have g1 := bg hd g1
    generalize w10.drew = w11 at hLd hFd g1 ⊢
    refine mupd (k := prOf k) (v := ⟨s, o, seq, kind⟩) (ek := ekP) (ev := evH) keyP Try.underlying125 hLd.hm ?_
    rintro o2 _ hm2
    have hL2 := hLd.setHm hm2
    have hF2 := hFd.upd (b := L.hm) (.inl (.inr (.inl rfl))) o2
    have g1 := (upd_ne w11 L.hm r o2 (by omega)).trans g1
    dsimp only at hL2 ⊢
    generalize upd w11 L.hm o2 = w12 at hL2 hF2 g1 ⊢
    have hc2 := hL2.cell
    dsimp only at hc2
    simp [g1, hc2]
    have hL3 := hL2.setLast seq
    dsimp only at hL3
    have hF3 := hF2.upd (b := L.p) (.inl (.inl rfl)) (.cells #[.map (some L.hm), .map (some L.am), wv', .int .u64 seq] 128)
    refine hR _ _ hL3 rfl rfl rfl rfl rfl hF3 ?_
    rintro b (hb | hb | hb | hb)
    · exact .inl (.inl hb)
    · exact .inl (.inr (.inl hb))
    · exact .inl (.inr (.inr (.inl hb)))
    · exact hwv b hb
  simp [g3, g1]
  by_cases hbe2 : bef L k = (ps, po)
  · have e1 : (bef L k).1 = ps ∧ (bef L k).2 = po := by rw [hbe2]; exact ⟨rfl, rfl⟩
    simp [e1]
    rw [if_pos hbe2] at key
    exact key w7 L.wv hL (Fr.of_bel hw7) (fun b hb => .inl (.inr (.inr (.inr hb)))) g0 g1 g2 g3
  · have e1 : ¬ ((bef L k).1 = ps ∧ (bef L k).2 = po) := fun e => hbe2 (Prod.ext e.1 e.2)
    have e2 : (!decide ((bef L k).1 = ps) || !decide ((bef L k).2 = po)) = true := by
      rw [← Bool.not_and, Bool.not_eq_true', Bool.and_eq_false_iff]
      rcases Decidable.em ((bef L k).1 = ps) with h3 | h3
      · right; exact decide_eq_false fun h4 => e1 ⟨h3, h4⟩
      · left; exact decide_eq_false h3
    rw [e2, ifV_true]
    rw [if_neg hbe2] at key
    have hd := bd (br w7)
    have g0 := bg hd g0
    have g1 := bg hd g1
    have g2 := bg hd g2
    have g3 := bg hd g3
    have hL := hL.bel hd
    have hw7 := bd hw7
    refine drawn' (St0 := fun a => hp a L.p = some (.cells #[.map (some L.hm), .map (some L.am), L.wv, .int .u64 L.last] 128) ∧ hp a w.heap.size = some (.cells #[.int .u32 s, .int .u32 o, .int .i64 z, .int .u64 seq, .int .i64 kind, .slice (some ⟨bb, off, none⟩) k.length c, .slice none 0 0, .int .u32 ps, .int .u32 po] 40)) ⟨hL.cell, g0⟩ fun St hS => ?_
    have hSu := (hS w7.drew).2 ⟨hL.cell, g0⟩
    rw [readP_iff (fun a ha => ((hS a).1 ha).1) hSu]
    simp [readP_iff (fun a ha => ((hS a).1 ha).2) hSu]
    rw [show w7.heap.size = w7.drew.heap.size from rfl]
    generalize w7.drew = w8 at g0 g1 g2 g3 hL hw7 hSu ⊢
    have hx := bx' w8 [.cells #[.int .u32 s, .int .u32 o] 34]
    have g0 := bg hx g0
    have g1 := bg hx g1
    have g2 := bg hx g2
    have g3 := bg hx g3
    have hL := hL.bel hx
    have hw8 := bt hw7 hx
    have gs : hp (ext w8 [.cells #[.int .u32 s, .int .u32 o] 34]) w8.heap.size = some (.cells #[.int .u32 s, .int .u32 o] 34) := by simp
    refine ⟨(hS _).2 ⟨hL.cell, g0⟩, ?_⟩
    generalize ext w8 [.cells #[.int .u32 s, .int .u32 o] 34] = w9 at g0 g1 g2 g3 gs hL hw8 ⊢
    have hsz9 := hw8.size
    have hcs : (#[.int .u32 s, .int .u32 o] : Array Value).toList = encL (s, o) := rfl
    have hb1 : (L.wrong.length + 1) * 8 ≤ 140737488355328 := by omega
    have hb2 : L.wrong.length + 1 ≤ maxLen := by simp only [maxLen]; omega
    have hb3 : B ≤ w9.heap.size := by omega
    refine app row34 encL_ok hL.wv gs hcs hb1 hb2 hb3 fun v' w10 ho hg hv' => ?_
    obtain ⟨n1, n2, n3, n4, n5⟩ := hL.nes
    have hlw := hL.low
    have ne0 : some w.heap.size ≠ L.wv.ownBlock := fun e => by have := (hlow _ (.inr (.inr (.inr e.symm)))).2; omega
    have ner : some r ≠ L.wv.ownBlock := fun e => by have := (hlow _ (.inr (.inr (.inr e.symm)))).2; omega
    have ne8 : some b8 ≠ L.wv.ownBlock := fun e => by have := (hlow _ (.inr (.inr (.inr e.symm)))).2; have := hw1.size; omega
    have ne9 : some b9 ≠ L.wv.ownBlock := fun e => by have := (hlow _ (.inr (.inr (.inr e.symm)))).2; omega
    have c1 := grown_hp hg hL.cell n3
    refine ⟨(hS _).2 ⟨c1, grown_hp hg g0 ne0⟩, ?_⟩
    obtain ⟨va, vc, hvf⟩ := (ho.rd encL_ok).form
    have hcv : v'.cells = #[v'] ∧ flatV v' = true := by rw [hvf]; exact ⟨rfl, rfl⟩
    simp [c1, hcv.1, hcv.2]
    have hF := (Fr.of_bel (F := L.foot) hw8).grown hg (fun g hg => .inl (.inr (.inr (.inr hg))))
    have hF := hF.upd (b := L.p) (.inl (.inl rfl)) (.cells #[.map (some L.hm), .map (some L.am), v', .int .u64 L.last] 128)
    have hnv : ∀ g, v'.ownBlock = some g → g ≠ L.p ∧ (L.foot g ∨ w.heap.size ≤ g) := by
      intro g hg'
      have l1 := (hlow L.p (.inl rfl)).2
      rcases hv' with e | e
      · exact ⟨fun e2 => n3 (by rw [← e, hg', e2]), .inl (.inr (.inr (.inr (by rw [← e, hg']))))⟩
      · rw [hg'] at e; injection e with e; exact ⟨by omega, .inr (by omega)⟩
    have up : ∀ {b X}, hp w9 b = some X → some b ≠ L.wv.ownBlock → b ≠ L.p → hp (upd w10 L.p (.cells #[.map (some L.hm), .map (some L.am), v', .int .u64 L.last] 128)) b = some X := fun hb h3 h4 => (upd_ne _ _ _ _ h4).trans (grown_hp hg hb h3)
    have l1 := (hlow L.p (.inl rfl)).2
    refine key _ v' ⟨by simp [c1], ?_, ?_, ho.kept fun g hg' => upd_ne _ _ _ _ (hnv g hg').1, hL.ge, hL.ne⟩ hF (fun b hb => (hnv b hb).2) (up g0 ne0 (by omega)) (up g1 ner (by omega)) (up g2 ne8 (by have := hw1.size; omega)) (up g3 ne9 (by omega))
    · exact (hL.hm.keep (hg.block _ hL.hm.lt n4)).keep (upd_ne _ _ _ _ n1.symm)
    · exact (hL.am.keep (hg.block _ hL.am.lt n5)).keep (upd_ne _ _ _ _ n2.symm)
/-- Links.Ahead. -/
theorem s17 {w : World} {B : Nat} {L : Lk} (h : LkOk w B L) {s o : Int} {R : Value → World → Prop}
    (hR : ∀ w', Bel w w' → R (.tuple #[ekL ((look (s, o) L.ahead).getD (0, 0)), .bool (look (s, o) L.ahead).isSome]) w') : F17 (.pointer (some ⟨L.p, 0, none⟩)) (.agg #[.int .u32 s, .int .u32 o]) w R := by
  unfold F17
  simp
  have hw0 := bx' w [.cells #[.int .u32 s, .int .u32 o] 34, .cells #[.int .u32 0, .int .u32 0] 34]
  have g0 : hp (ext w [.cells #[.int .u32 s, .int .u32 o] 34, .cells #[.int .u32 0, .int .u32 0] 34]) w.heap.size = some (.cells #[.int .u32 s, .int .u32 o] 34) := by simp
  have g1 : hp (ext w [.cells #[.int .u32 s, .int .u32 o] 34, .cells #[.int .u32 0, .int .u32 0] 34]) (w.heap.size + 1) = some (.cells #[.int .u32 0, .int .u32 0] 34) := by simp
  have hL := h.bel hw0
  generalize ext w [.cells #[.int .u32 s, .int .u32 o] 34, .cells #[.int .u32 0, .int .u32 0] 34] = u at hw0 g0 g1 hL
  refine c45 (s45 hL ?_)
  simp
  refine drawn' (St0 := Bel u) (bd (br u)) fun St hS => ?_
  have hSu := (hS u.drew).2 (bd (br u))
  rw [readP_iff (fun a ha => (hL.bel ((hS a).1 ha)).cell) hSu]
  simp
  rw [readP_iff (fun a ha => bg ((hS a).1 ha) g0) hSu]
  simp
  refine readP_run (fun a ha => run_look (k := (s, o)) (z := ((0 : Int), (0 : Int))) keyL Try.underlying126 zero_34 (hL.bel ((hS a).1 ha)).am true) ?_
  simp [ekL]
  have hd := bd (br u)
  have hw0 := bt hw0 hd
  refine ⟨(hS _).2 (bx hd _), ?_⟩
  simp [g1]
  refine readW_of ?_
  simp [g1]
  exact hR _ (bx (bu hw0 (by omega) _) _)
theorem appN {α : Type} {w : World} {B T E k bytes ty : Nat} (hT : RowT T E k bytes) {enc : α → List Value} (he : Enc k enc) {v : Value} {l : List α} (h : Own w B E k enc v l)
    {a : Addr} {c n : Nat} {ls : List α} (hn : ls.length = n) (hx : Rd w k enc (.slice (some a) n c) ls) (hl : (l.length + n) * bytes ≤ 140737488355328) (hl2 : l.length + n ≤ maxLen) (hB : B ≤ w.heap.size)
    {K : Value → World → Prop} (hK : ∀ v' w', Own w' B E k enc v' (l ++ ls) → w.grownBy w' v.ownBlock → (v'.ownBlock = v.ownBlock ∨ v'.ownBlock = some w.heap.size) → K v' w') :
    S Pg (Builtin.append_ #[T, T] ty #[v, .slice (some a) n c]) w K := by
  subst hn
  obtain ⟨hu, hi⟩ := hT
  obtain ⟨i, hi, he2⟩ := Option.map_eq_some_iff.1 hi
  injection he2 with e1 e2
  injection e2 with e2 e3
  obtain ⟨z, hz, hzs⟩ := Option.map_eq_some_iff.1 e3
  have hlen : (ls.flatMap enc).length = ls.length * k := by
    clear hx hl hl2 hK
    induction ls with
    | nil => simp
    | cons x ls ih => rw [List.flatMap_cons, List.length_append, he.len, ih, List.length_cons, Nat.add_mul]; omega
  have hnews : ∀ j u, (ls.flatMap enc)[j]? = some u → w.cell? (a.add j) = some u := fun j u hj => by
    have hjl := (List.getElem?_eq_some_iff.1 hj).1
    rw [hlen] at hjl
    have hpos := he.pos
    have hi : j / k < ls.length := (Nat.div_lt_iff_lt_mul hpos).2 hjl
    have hm : j % k < k := Nat.mod_lt _ hpos
    have hj2 := flatMap_at he (List.getElem?_eq_getElem hi) (List.getElem?_eq_getElem (show j % k < (enc ls[j / k]).length by rw [he.len]; exact hm))
    rw [Nat.div_add_mod' j k, hj] at hj2
    injection hj2 with hj2
    obtain ⟨a', c', ha, hx⟩ := hx
    injection ha with ha _ _
    obtain ⟨b, off, hb, cs, E', fr, h1, h2⟩ := hx _ _ (List.getElem?_eq_getElem hi)
    rw [hb] at ha
    injection ha with ha
    subst ha
    have h3 := h2 (j % k) u (by rw [hj2]; exact List.getElem?_eq_getElem _)
    have hh : w.heap[b]? = some (.cells cs E' fr) := h1
    rw [Nat.add_assoc, Nat.div_add_mod' j k] at h3
    rw [addr_add]
    simp [World.cell?, hh, h3]
  have hone : ∀ u ∈ ls.flatMap enc, u.oneCell' = true := fun u hu => by
    obtain ⟨x, _, hx⟩ := List.mem_flatMap.1 hu
    exact he.one x u hx
  obtain ⟨v', w', h1, h2, h3, h4, h5⟩ := run_append_own_at (P := Pg) w B T ty E i z k bytes hu hi hz e1 e2 hzs he.pos v l.length (l.flatMap enc) h a ls.length c (ls.flatMap enc) hlen hnews hone hl2 hl hB
  refine (S_of h1).2 (hK v' w' ?_ h3 h5)
  unfold Own
  rw [List.length_append, List.flatMap_append]
  exact h2
theorem Own.empty {α : Type} (w : World) (B E k : Nat) (enc : α → List Value) (hB : B ≤ w.heap.size) : Own (ext w [.cells #[] E]) B E k enc (.slice (some ⟨w.heap.size, 0, none⟩) 0 0) ([] : List α) :=
  ⟨by simp, .inr ⟨w.heap.size, 0, #[], rfl, hB, by have : hp (ext w [.cells #[] E]) w.heap.size = some (.cells #[] E) := by simp
                                                   exact this, Nat.le_refl _, by simp [maxLen], by simp, by simp⟩⟩
/-- slices.Clone of locs. -/
theorem s51 {w : World} {v : Value} {l : List (Int × Int)} (hv : Rd w 2 encL v l) (hl : l.length ≤ 1000000) {R : Value → World → Prop}
    (hR : ∀ v' w', Bel w w' → Own w' w.heap.size 34 2 encL v' l → R v' w') : F51 v w R := by
  obtain ⟨a, c, rfl, hx⟩ := id hv
  unfold F51
  cases a with
  | none =>
    have hl0 : l = [] := by
      cases l with
      | nil => rfl
      | cons x l => obtain ⟨b, off, h, _⟩ := hx 0 x rfl; cases h
    subst hl0
    simp
    exact hR _ _ (br w) (Own.nil _ _ _ _ _)
  | some a =>
    simp
    have hw0 := bx' w [.cells #[] 34]
    have he := Own.empty (α := Int × Int) w w.heap.size 34 2 encL (Nat.le_refl _)
    have hv := hv.bel hw0
    have hsz := hw0.size
    refine appN row34 encL_ok he rfl hv (by simp; omega) (by simp [maxLen]; omega) (by omega) fun v' w' ho hg _ => ?_
    have hrow : ∀ g, (Value.slice (some ⟨w.heap.size, 0, none⟩) 0 0).ownBlock = some g → w.heap.size ≤ g := fun g hg => by
      have : w.heap.size = g := by simpa [Value.ownBlock] using hg
      exact Nat.le_of_eq this
    exact hR _ _ (grown_bel hg hw0 hrow) ho
/-- Links.Wrong. -/
theorem s15 {w : World} {B : Nat} {L : Lk} (h : LkOk w B L) (hl : L.wrong.length ≤ 1000000) {R : Value → World → Prop}
    (hR : ∀ v' w', Bel w w' → Own w' w.heap.size 34 2 encL v' L.wrong → R v' w') : F15 (.pointer (some ⟨L.p, 0, none⟩)) w R := by
  unfold F15
  refine c45 (s45 h ?_)
  simp [h.cell]
  exact c51 (s51 (h.wv.rd encL_ok) hl hR)
end Go.Proofs.Ytbcmoikpmmjlkaa
