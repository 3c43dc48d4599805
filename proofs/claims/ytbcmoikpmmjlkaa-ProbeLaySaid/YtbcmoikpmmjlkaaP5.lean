/- Plans: what laying an item does. -/
import Derived.Test.YtbcmoikpmmjlkaaP4
namespace Go.Proofs.Ytbcmoikpmmjlkaa
open Go Eng
set_option maxRecDepth 100000
structure Sl where
  id : Int
  size : Int
  many : Int
  first : Int
  last : Int
  deriving DecidableEq
structure Sp where
  item : Nat
  to : Int × Int
  prev : Int × Int
  deriving DecidableEq
def encSl (s : Sl) : List Value := [.int .u32 s.id, .int .u32 s.size, .int .u32 s.many, .int .u64 s.first, .int .u64 s.last]
def encSp (p : Sp) : List Value := [.int .i64 (p.item : Nat), .int .u32 p.to.1, .int .u32 p.to.2, .int .u32 p.prev.1, .int .u32 p.prev.2]
theorem encSl_ok : Enc 5 encSl := ⟨fun _ => rfl, fun x u hu => by simp [encSl] at hu; rcases hu with rfl | rfl | rfl | rfl | rfl <;> rfl, by decide⟩
theorem encSp_ok : Enc 5 encSp := ⟨fun _ => rfl, fun x u hu => by simp [encSp] at hu; rcases hu with rfl | rfl | rfl | rfl | rfl <;> rfl, by decide⟩
theorem row68 : RowT 68 116 5 32 := ⟨Try.underlying68, by kernel_rfl⟩
theorem row67 : RowT 67 75 5 24 := ⟨Try.underlying67, by kernel_rfl⟩
/-- A plan under way. -/
structure PS where
  steps : List Sp
  seals : List Sl
  ahead : List (Pr × (Int × Int))
/-- The seals ahead of the one that is laid into, and that one. -/
def opened (limit first : Int) (s : List Sl) (x : Itm) : List Sl × Sl :=
  match s.getLast? with
  | none => ([], ⟨first, 16, 0, x.seq, 0⟩)
  | some l => if limit < l.size + x.size then (s, ⟨first + s.length, 16, 0, x.seq, 0⟩) else (s.dropLast, l)
def layP (limit first : Int) (s : PS) (i : Nat) (x : Itm) : PS :=
  { steps := s.steps ++ [⟨i, ((opened limit first s.seals x).2.id, (opened limit first s.seals x).2.size), (look (prOf x.key) s.ahead).getD (0, 0)⟩],
    seals := (opened limit first s.seals x).1 ++ [⟨(opened limit first s.seals x).2.id, (opened limit first s.seals x).2.size + x.size, (opened limit first s.seals x).2.many + 1, (opened limit first s.seals x).2.first, x.seq⟩],
    ahead := put (prOf x.key) ((opened limit first s.seals x).2.id, (opened limit first s.seals x).2.size) s.ahead }
/-- A plan in memory. -/
structure PlM (w : World) (B q mp : Nat) (sv lv : Value) (s : PS) : Prop where
  cell : hp w q = some (.cells #[sv, lv] 70)
  st : Own w B 75 5 encSp sv s.steps
  sl : Own w B 116 5 encSl lv s.seals
  am : Mp w mp ekP ekL s.ahead
  ge : B ≤ q ∧ B ≤ mp
def otherT (o : Obj) : Prop := match o with | .cells _ E _ => E ≠ 70 ∧ E ≠ 75 ∧ E ≠ 116 | _ => False
def otherU (o : Obj) : Prop := match o with | .cells _ E _ => E ≠ 75 ∧ E ≠ 116 | _ => False
/-- What is of no plan stays. -/
structure TF (q : Nat) (w w' : World) : Prop where
  size : w.heap.size ≤ w'.heap.size
  keep : ∀ b o, hp w b = some o → otherT o → hp w' b = some o
  keep2 : ∀ b o, hp w b = some o → b ≠ q → otherU o → hp w' b = some o
theorem TF.refl (q : Nat) (w : World) : TF q w w := ⟨Nat.le_refl _, fun _ _ h _ => h, fun _ _ h _ _ => h⟩
theorem TF.trans {q : Nat} {a b c : World} (h : TF q a b) (k : TF q b c) : TF q a c := ⟨Nat.le_trans h.size k.size, fun x o hx ho => k.keep x o (h.keep x o hx ho) ho, fun x o hx hn ho => k.keep2 x o (h.keep2 x o hx hn ho) hn ho⟩
theorem TF.bel {q : Nat} {w w' : World} (h : Bel w w') : TF q w w' := ⟨h.size, fun _ _ hx _ => bg h hx, fun _ _ hx _ _ => bg h hx⟩
theorem TF.upd {q : Nat} {w : World} {r : Nat} {o : Obj} (h : hp w r = some o) (ho : ¬ otherT o) (hu : r = q ∨ ¬ otherU o) (o' : Obj) : TF q w (upd w r o') := ⟨by simp, fun b x hx hxo => by
  rw [upd_ne]
  · exact hx
  · rintro rfl; rw [h] at hx; injection hx with hx; subst hx; exact ho hxo, fun b x hx hn hxo => by
  rw [upd_ne]
  · exact hx
  · rintro rfl
    rcases hu with hu | hu
    · exact hn hu
    · rw [h] at hx; injection hx with hx; subst hx; exact hu hxo⟩
theorem TF.grown {q : Nat} {w w' : World} {α : Type} {B E k : Nat} {enc : α → List Value} {v : Value} {l : List α} (ho : Own w B E k enc v l) (hg : w.grownBy w' v.ownBlock) (hE : E = 75 ∨ E = 116) : TF q w w' :=
  ⟨hg.size, fun b o hb hbo => grown_hp hg hb (ho.ne hb (by rintro cur rfl; rcases hE with rfl | rfl <;> simp [otherT] at hbo)), fun b o hb _ hbo => grown_hp hg hb (ho.ne hb (by rintro cur rfl; rcases hE with rfl | rfl <;> simp [otherU] at hbo))⟩
theorem PlM.bel {w w' : World} {B q mp : Nat} {sv lv : Value} {s : PS} (h : PlM w B q mp sv lv s) (k : Bel w w') : PlM w' B q mp sv lv s := ⟨bg k h.cell, h.st.bel k, h.sl.bel k, h.am.bel k, h.ge⟩
theorem newL {T : TypeId} {w : World} {z : Value} (hz : zeroT Pg T = some z) {K : Value → World → Prop} (h : ∀ q w', Bel w w' → w.heap.size ≤ q → q < w'.heap.size → hp w' q = some (.cells z.cells T) → K (.pointer (some ⟨q, 0, none⟩)) w') : newP (zeroT Pg T) T w K := by
  rw [hz]
  refine (newP_some _ _ _ _).2 (h _ _ (bx' _ _) (Nat.le_refl _) (by simp) ?_)
  simp
theorem st34 {w : World} {q : Nat} {a b : Int} (h : hp w q = some (.cells #[.int .u32 0, .int .u32 0] 34)) {K : World → Prop} (hK : K (upd w q (.cells #[.int .u32 a, .int .u32 b] 34))) : getU (storeW Pg 34 (.pointer (some ⟨q, 0, none⟩)) (.agg #[.int .u32 a, .int .u32 b]) w) K := by
  simp [h]; exact hK
theorem st133 {w : World} {q : Nat} {p : Pr} (h : hp w q = some (.cells #[.int .u8 0, .int .u64 0, .int .u64 0, .int .u64 0, .int .u64 0, .int .u64 0, .int .u64 0, .int .u64 0, .int .u64 0] 133)) {K : World → Prop}
    (hK : K (upd w q (.cells #[.int .u8 p.n, .int .u64 p.a, .int .u64 p.b, .int .u64 p.c, .int .u64 p.d, .int .u64 p.e, .int .u64 p.f, .int .u64 p.g, .int .u64 p.h] 133))) : getU (storeW Pg 133 (.pointer (some ⟨q, 0, none⟩)) (ekP p) w) K := by
  simp [h, ekP]; exact hK
/-- An own row whose last one is at hand. -/
theorem Own.last {α : Type} {w : World} {B E k : Nat} {enc : α → List Value} {v : Value} {l : List α} {x : α} (he : Enc k enc) (h : Own w B E k enc v (l ++ [x])) :
    ∃ g cap rest, v = .slice (some ⟨g, 0, none⟩) (l.length + 1) cap ∧ hp w g = some (.cells (l.flatMap enc ++ (enc x ++ rest)).toArray E (0, 0)) ∧ (l.flatMap enc).length = l.length * k ∧ B ≤ g ∧
      ∀ (w' : World) (x' : α), hp w' g = some (.cells (l.flatMap enc ++ (enc x' ++ rest)).toArray E (0, 0)) → Own w' B E k enc v (l ++ [x']) := by
  obtain ⟨h0, h | ⟨g, cap, cur, rfl, hB, hg, hn, hc, hs, ht⟩⟩ := h
  · exact absurd h.2 (by simp)
  · have hfl : ∀ l : List α, (l.flatMap enc).length = l.length * k := by
      intro l
      induction l with
      | nil => simp
      | cons a l ih => rw [List.flatMap_cons, List.length_append, he.len, ih, List.length_cons, Nat.add_mul]; omega
    have hll : (l ++ [x]).length = l.length + 1 := by simp
    have hcur : cur.toList = l.flatMap enc ++ (enc x ++ cur.toList.drop ((l ++ [x]).length * k)) := by
      have := List.take_append_drop ((l ++ [x]).length * k) cur.toList
      rw [ht] at this
      rw [← List.append_assoc]
      rw [List.flatMap_append] at this
      simpa using this.symm
    refine ⟨g, cap, cur.toList.drop ((l ++ [x]).length * k), by rw [hll], ?_, hfl l, hB, fun w' x' hw' => ?_⟩
    · rw [← hcur]; exact hg
    · have hl2 : (l ++ [x']).length = (l ++ [x]).length := by simp
      unfold Own
      rw [hl2]
      refine ⟨?_, .inr ⟨g, cap, _, rfl, hB, hw', hn, hc, ?_, ?_⟩⟩
      · rw [hfl, hl2]
      · have := congrArg List.length hcur
        simp only [List.length_append, he.len] at this
        have h3 : cur.toList.length = cur.size := by simp
        simp only [List.size_toArray, List.length_append, he.len]
        omega
      · rw [hll, List.toList_toArray, ← List.append_assoc, List.flatMap_append]
        rw [List.take_append_of_le_length (by simp [hfl, he.len, Nat.add_mul])]
        rw [List.take_of_length_le (by simp [hfl, he.len, Nat.add_mul])]
        simp
end Go.Proofs.Ytbcmoikpmmjlkaa
