/- Laws of the engine's primitives, for use by simp: worlds as a base with new blocks behind it, what is read and written. -/
import Derived.Test.YtbcmoikpmmjlkaaE
namespace Go.Proofs.Ytbcmoikpmmjlkaa.Eng
open Go

/-! ### No simp beneath a binder ahead of its time -/
@[congr] theorem pureP_congr {P : Program} {s s' : Sem Value} {K : Value → Prop} (h : s = s') : pureP P s K = pureP P s' K := by rw [h]
@[congr] theorem getO_congr {x x' : Option Value} {K : Value → Prop} (h : x = x') : getO x K = getO x' K := by rw [h]
@[congr] theorem getU_congr {x x' : Option World} {K : World → Prop} (h : x = x') : getU x K = getU x' K := by rw [h]
@[congr] theorem newP_congr {z z' : Option Value} {T : TypeId} {w w' : World} {K : Value → World → Prop} (h : z = z') (hw : w = w') : newP z T w K = newP z' T w' K := by rw [h, hw]
@[congr] theorem S_congr {P : Program} {s s' : Sem Value} {w w' : World} {K : Value → World → Prop} (h : s = s') (hw : w = w') : S P s w K = S P s' w' K := by rw [h, hw]
@[congr] theorem U_congr {P : Program} {s s' : Sem Unit} {w w' : World} {K : World → Prop} (h : s = s') (hw : w = w') : U P s w K = U P s' w' K := by rw [h, hw]
@[congr] theorem callV_congr {P : Program} {r : Bool} {f f' : Value} {as as' : Array Value} {w w' : World} {K : Value → World → Prop} (hf : f = f') (h : as = as') (hw : w = w') : callV P r f as w K = callV P r f' as' w' K := by rw [hf, h, hw]
@[congr] theorem ifV_congr {v v' : Value} {A B : Prop} (h : v = v') : ifV v A B = ifV v' A B := by rw [h]
@[congr] theorem readP_congr {St : World → Prop} {f : World → Option Value} {K : Value → Prop} {K' : Value → Prop} (h : K = K') : readP St f K = readP St f K' := by rw [h]
@[congr] theorem readW_congr {P : Program} {s s' : Sem Value} {w w' : World} {K : Value → Prop} (h : s = s') (hw : w = w') : readW P s w K = readW P s' w' K := by rw [h, hw]
@[congr] theorem loopP_congr {s s' : List Value} {w w' : World} {B : List Value → World → (List Value → World → Prop) → Prop} (h : s = s') (hw : w = w') : loopP s w B = loopP s' w' B := by rw [h, hw]
@[congr] theorem joinP_congr {A A' : (List Value → World → Prop) → Prop} {R : List Value → World → Prop} (h : A = A') : joinP A R = joinP A' R := by rw [h]
@[congr] theorem rangeP_congr {P : Program} {np : Nat} {fv fv' : Value} {w w' : World} {B : List Value → World → (World → Prop) → Prop} {K : World → Nat → Prop} (h : fv = fv') (hw : w = w') : rangeP P np fv w B K = rangeP P np fv' w' B K := by rw [h, hw]

/-! ### Worlds -/
def ext (w : World) (l : List Obj) : World := { w with heap := w.heap ++ l.toArray }
def upd (w : World) (b : Nat) (o : Obj) : World := { w with heap := w.heap.setIfInBounds b o }
/-- What lies at a block. -/
def hp (w : World) (b : Nat) : Option Obj := w.heap[b]?
def orGet (x : Option Obj) (l : List Obj) (k : Nat) : Option Obj := match x with | some o => some o | none => l[k]?
@[simp] theorem orGet_some (o : Obj) (l : List Obj) (k : Nat) : orGet (some o) l k = some o := rfl
@[simp] theorem orGet_none (l : List Obj) (k : Nat) : orGet none l k = l[k]? := rfl
@[simp] theorem ext_get (w : World) (l : List Obj) (b : Nat) : hp (ext w l) b = orGet (hp w b) l (b - w.heap.size) := by
  show (w.heap ++ l.toArray)[b]? = orGet w.heap[b]? l (b - w.heap.size)
  rw [Array.getElem?_append]
  split
  · rename_i h
    simp [h]
  · rename_i h
    rw [show w.heap[b]? = none from Array.getElem?_eq_none (by omega)]
    simp
@[simp] theorem ext_size (w : World) (l : List Obj) : (ext w l).heap.size = w.heap.size + l.length := by simp [ext]
@[simp] theorem ext_ext (w : World) (l l' : List Obj) : ext (ext w l) l' = ext w (l ++ l') := by simp [ext]
@[simp] theorem ext_nil (w : World) : ext w [] = w := by simp [ext]
@[simp] theorem hp_size (w : World) : hp w w.heap.size = none := by simp [hp]
@[simp] theorem hp_size_add (w : World) (k : Nat) : hp w (w.heap.size + k) = none := by simp [hp]
theorem hp_lt {w : World} {b : Nat} {o : Obj} (h : hp w b = some o) : b < w.heap.size := (Array.getElem?_eq_some_iff.1 h).1
theorem upd_get (w : World) (b b' : Nat) (o : Obj) : hp (upd w b o) b' = if b' = b then (hp w b).map (fun _ => o) else hp w b' := by
  show (w.heap.setIfInBounds b o)[b']? = if b' = b then (w.heap[b]?).map (fun _ => o) else w.heap[b']?
  by_cases h : b' = b
  · subst h
    rw [if_pos rfl, Array.getElem?_setIfInBounds_self]
    by_cases hl : b' < w.heap.size
    · simp [hl]
    · simp [hl]
  · rw [if_neg h, Array.getElem?_setIfInBounds_ne (Ne.symm h)]
@[simp] theorem upd_same (w : World) (b : Nat) (o : Obj) : hp (upd w b o) b = (hp w b).map (fun _ => o) := by rw [upd_get, if_pos rfl]
@[simp] theorem upd_ne (w : World) (b b' : Nat) (o : Obj) (h : b' ≠ b) : hp (upd w b o) b' = hp w b' := by rw [upd_get, if_neg h]
@[simp] theorem upd_size (w : World) (b : Nat) (o : Obj) : (upd w b o).heap.size = w.heap.size := by simp [upd]
@[simp] theorem upd_ext (w : World) (l : List Obj) (b : Nat) (o : Obj) : upd (ext w l) b o = if (hp w b).isSome then ext (upd w b o) l else ext w (l.set (b - w.heap.size) o) := by
  unfold upd ext hp
  by_cases h : b < w.heap.size
  · rw [if_pos (by simp [h])]
    congr 1
    simp only [Array.setIfInBounds_append, h, if_true]
  · rw [if_neg (by simp; omega)]
    congr 1
    simp only [Array.setIfInBounds_append, h, if_false]
    simp
@[simp] theorem upd_upd (w : World) (b : Nat) (o o' : Obj) : upd (upd w b o) b o' = upd w b o' := by simp [upd]
@[simp] theorem drew_heap (w : World) : w.drew.heap = w.heap := rfl
@[simp] theorem drew_hp (w : World) (b : Nat) : hp w.drew b = hp w b := rfl
@[simp] theorem drew_ext (w : World) (l : List Obj) : (ext w l).drew = ext w.drew l := rfl
@[simp] theorem drew_upd (w : World) (b : Nat) (o : Obj) : (upd w b o).drew = upd w.drew b o := rfl
@[simp] theorem drewP_iff (w : World) (K : World → Prop) : drewP w K = K w.drew := rfl

theorem Below_ext {B : Nat} {a w : World} {l : List Obj} (h : RowKit.Below B a w) (hB : B ≤ w.heap.size) : RowKit.Below B a (ext w l) :=
  h.trans ⟨rfl, rfl, rfl, by simp, fun k hk => by
    show hp (ext w l) k = hp w k
    have : hp w k = some (w.heap[k]'(by omega)) := by simp [hp]
    rw [ext_get, this]; rfl⟩
theorem Below_upd {B : Nat} {a w : World} {b : Nat} {o : Obj} (h : RowKit.Below B a w) (hb : B ≤ b) : RowKit.Below B a (upd w b o) :=
  h.trans ⟨rfl, rfl, rfl, by simp, fun k hk => by
    show hp (upd w b o) k = hp w k
    rw [upd_ne]; omega⟩
theorem Below_drew {B : Nat} {a w : World} (h : RowKit.Below B a w) : RowKit.Below B a w.drew := h.drew
theorem Below.get {w w' : World} (h : RowKit.Below w.heap.size w w') {b : Nat} {o : Obj} (hb : hp w b = some o) : hp w' b = some o := (h.block b (hp_lt hb)).trans hb

theorem ext_one (w : World) (o : Obj) : ext w [o] = w.alloc o := by
  show ({ w with heap := w.heap ++ #[o] } : World) = { w with heap := w.heap.push o }
  simp

/-! ### Reading and writing -/
@[simp] theorem cellOf_cells (c : Array Value) (E : TypeId) (fr : Nat × Nat) (o : Nat) : cellOf (some (.cells c E fr)) o = c[o]? := rfl
@[simp] theorem cellsOf_cells (c : Array Value) (E : TypeId) (fr : Nat × Nat) (o n : Nat) : cellsOf (some (.cells c E fr)) o n = if o + n ≤ c.size then some (c.extract o (o + n)) else none := rfl
@[simp] theorem ldSh_one (x : Option Obj) (o : Nat) : ldSh (some .one) x o = cellOf x o := rfl
@[simp] theorem ldSh_agg (x : Option Obj) (o n : Nat) : ldSh (some (.agg n)) x o = (cellsOf x o n).map .agg := rfl
@[simp] theorem loadW_ptr (P : Program) (T : TypeId) (b o : Nat) (w : World) : loadW P T (.pointer (some ⟨b, o, none⟩)) w = ldSh (shapeT P T) (hp w b) o := rfl
@[simp] theorem storeW_ptr (P : Program) (T : TypeId) (b o : Nat) (x : Value) (w : World) : storeW P T (.pointer (some ⟨b, o, none⟩)) x w = (storeOf (hp w b) o (sizeT P T) x.cells.toList).map (upd w b) := rfl
@[simp] theorem storeOf_cells (c : Array Value) (E : TypeId) (fr : Nat × Nat) (o : Nat) (n : Option Nat) (vs : List Value) :
    storeOf (some (.cells c E fr)) o n vs = if n = some vs.length ∧ o + vs.length ≤ c.size ∧ okFr fr o vs.length = true ∧ (∀ v ∈ vs, flatV v = true) then some (.cells (spliceL c.toList o vs).toArray E fr) else none := rfl
@[simp] theorem okFr_zero (o n : Nat) : okFr (0, 0) o n = true := by simp [okFr]
@[simp] theorem spliceL_nil (c : List Value) (o : Nat) : spliceL c o [] = c := by cases c <;> rfl
@[simp] theorem spliceL_cons (c : List Value) (o : Nat) (x : Value) (xs : List Value) : spliceL c o (x :: xs) = spliceL (c.set o x) (o + 1) xs := by cases c <;> rfl
@[simp] theorem flatV_bool (b : Bool) : flatV (.bool b) = true := rfl
@[simp] theorem flatV_int (k : IntKind) (n : Int) : flatV (.int k n) = true := rfl
@[simp] theorem flatV_string (s : ByteArray) : flatV (.string s) = true := rfl
@[simp] theorem flatV_pointer (a : Option Addr) : flatV (.pointer a) = true := rfl
@[simp] theorem flatV_slice (a : Option Addr) (n c : Nat) : flatV (.slice a n c) = true := rfl
@[simp] theorem flatV_map (r : Option Nat) : flatV (.map r) = true := rfl
@[simp] theorem flatV_func (f : Fn) (a b : Array Value) : flatV (.func f a b) = true := rfl
@[simp] theorem flatV_nilFunc : flatV .nilFunc = true := rfl
@[simp] theorem cells_agg (c : Array Value) : (Value.agg c).cells = c := rfl
@[simp] theorem cells_bool (b : Bool) : (Value.bool b).cells = #[.bool b] := rfl
@[simp] theorem cells_int (k : IntKind) (n : Int) : (Value.int k n).cells = #[.int k n] := rfl
@[simp] theorem cells_string (s : ByteArray) : (Value.string s).cells = #[.string s] := rfl
@[simp] theorem cells_pointer (a : Option Addr) : (Value.pointer a).cells = #[.pointer a] := rfl
@[simp] theorem cells_slice (a : Option Addr) (n c : Nat) : (Value.slice a n c).cells = #[.slice a n c] := rfl
@[simp] theorem cells_map (r : Option Nat) : (Value.map r).cells = #[.map r] := rfl
@[simp] theorem cells_func (f : Fn) (a b : Array Value) : (Value.func f a b).cells = #[.func f a b] := rfl
@[simp] theorem cells_nilFunc : Value.nilFunc.cells = #[.nilFunc] := rfl

@[simp] theorem getO_some (v : Value) (K : Value → Prop) : getO (some v) K ↔ K v := ⟨fun ⟨_, h, k⟩ => by cases h; exact k, fun k => ⟨v, rfl, k⟩⟩
@[simp] theorem getU_some (w : World) (K : World → Prop) : getU (some w) K ↔ K w := ⟨fun ⟨_, h, k⟩ => by cases h; exact k, fun k => ⟨w, rfl, k⟩⟩
@[simp] theorem newP_some (v : Value) (T : TypeId) (w : World) (K : Value → World → Prop) : newP (some v) T w K ↔ K (.pointer (some ⟨w.heap.size, 0, none⟩)) (ext w [.cells v.cells T]) := by
  have he : ext w [.cells v.cells T] = { w with heap := w.heap.push (.cells v.cells T) } := by simp [ext]
  rw [he]
  exact ⟨fun ⟨_, h, k⟩ => by cases h; exact k, fun k => ⟨v, rfl, k⟩⟩
@[simp] theorem ifV_true (A B : Prop) : ifV (.bool true) A B ↔ A := ⟨fun ⟨_, h, k, _⟩ => by cases h; exact k rfl, fun k => ⟨true, rfl, fun _ => k, fun h => by cases h⟩⟩
@[simp] theorem ifV_false (A B : Prop) : ifV (.bool false) A B ↔ B := ⟨fun ⟨_, h, _, k⟩ => by cases h; exact k rfl, fun k => ⟨false, rfl, (fun h => by cases h), fun _ => k⟩⟩
/-- A test that is not decided. -/
theorem ifB {b : Bool} {A B : Prop} (h1 : b = true → A) (h2 : b = false → B) : ifV (.bool b) A B := ⟨b, rfl, h1, h2⟩
theorem ifD {p : Prop} [Decidable p] {A B : Prop} (h1 : p → A) (h2 : ¬ p → B) : ifV (.bool (decide p)) A B := ⟨_, rfl, fun h => h1 (of_decide_eq_true h), fun h => h2 (of_decide_eq_false h)⟩

/-! ### Runs -/
theorem pureP_of {P : Program} {s : Sem Value} {v : Value} {K : Value → Prop} (h : ∀ w, s.run P w = .ok v w) : pureP P s K ↔ K v :=
  ⟨fun ⟨v', h', k⟩ => by have := (h default).symm.trans (h' default); injection this with this; subst this; exact k, fun k => ⟨v, h, k⟩⟩
theorem S_of {P : Program} {s : Sem Value} {v : Value} {w w' : World} {K : Value → World → Prop} (h : s.run P w = .ok v w') : S P s w K ↔ K v w' :=
  ⟨fun ⟨v', w'', h', k⟩ => by rw [h] at h'; injection h' with h1 h2; subst h1; subst h2; exact k, fun k => ⟨v, w', h, k⟩⟩
theorem run_program {P : Program} {w : World} : (program : Sem Program).run P w = .ok P w := rfl
theorem run_und {P : Program} {T : TypeId} {d : TypeDesc} (h : P.underlying T = some d) (w : World) : (underlying T : Sem TypeDesc).run P w = .ok d w := by
  have hp : (program : Sem Program).run P w = .ok P w := rfl
  simp [underlying, hp, h, Result.andThen]
theorem run_info {P : Program} {T : TypeId} {i : TypeInfo} (h : P.info? T = some i) (w : World) : (typeInfo T : Sem TypeInfo).run P w = .ok i w := by
  have hp : (program : Sem Program).run P w = .ok P w := rfl
  simp [typeInfo, hp, h, Result.andThen]
theorem run_size {P : Program} {T : TypeId} {n : Nat} (h : sizeT P T = some n) (w : World) : (sizeOf T : Sem Nat).run P w = .ok n w := by
  unfold sizeT at h
  cases hi : P.info? T with
  | none => rw [hi] at h; cases h
  | some i => rw [hi] at h; injection h with h; simp [sizeOf, run_info hi, Result.andThen, h]

@[simp] theorem pure_nil (P : Program) (a : Addr) (K : Value → Prop) : pureP P (nilS (.pointer (some a))) K ↔ K (.pointer (some a)) := pureP_of fun _ => rfl
/-- Where a field of a struct lies. -/
def fldOff (P : Program) (T : TypeId) (i : Nat) : Option Nat :=
  match P.underlying T with
  | some (.struct fs) => match fs[i]? with
    | some f => match sizeT P f.type with | some (_ + 1) => some f.offset | _ => none
    | none => none
  | _ => none
theorem pure_field {P : Program} {T i off : Nat} (h : fldOff P T i = some off) (b o : Nat) (K : Value → Prop) : pureP P (Instr.fieldAt T (.pointer (some ⟨b, o, none⟩)) i) K ↔ K (.pointer (some ⟨b, o + off, none⟩)) := by
  refine pureP_of fun w => ?_
  unfold fldOff at h
  split at h
  · rename_i fs hu
    split at h
    · rename_i f hf
      split at h
      · rename_i n hs
        injection h with h
        subst h
        simp [Instr.fieldAt, run_und hu, Result.andThen, hf, Instr.sureAddr, fieldPlace, run_size hs, addr_add]
      · cases h
    · cases h
  · cases h
/-- The size of a slice's elements. -/
def elSize (P : Program) (T : TypeId) : Option Nat := match P.underlying T with | some (.slice E) => sizeT P E | _ => none
theorem pure_index {P : Program} {T sz : Nat} (h : elSize P T = some sz) (b o len cap : Nat) (k : IntKind) (i : Int) (K : Value → Prop) :
    (0 ≤ i ∧ i < len) → (pureP P (Instr.indexAt T (.slice (some ⟨b, o, none⟩) len cap) (.int k i)) K ↔ K (.pointer (some ⟨b, o + i.toNat * sz, none⟩))) := by
  rintro ⟨h1, h2⟩
  refine pureP_of fun w => ?_
  unfold elSize at h
  split at h
  · rename_i E hu
    simp [Instr.indexAt, asIntOf, run_und hu, Result.andThen, h1, h2, run_size h, addr_add]
  · cases h
def arrSize (P : Program) (T : TypeId) : Option (Nat × Nat) := match P.underlying T with | some (.array n E) => (sizeT P E).map fun s => (n, s) | _ => none
theorem pure_indexArr {P : Program} {T n sz : Nat} (h : arrSize P T = some (n, sz)) (b o : Nat) (k : IntKind) (i : Int) (K : Value → Prop) :
    (0 ≤ i ∧ i < n) → (pureP P (Instr.indexAt T (.pointer (some ⟨b, o, none⟩)) (.int k i)) K ↔ K (.pointer (some ⟨b, o + i.toNat * sz, none⟩))) := by
  rintro ⟨h1, h2⟩
  refine pureP_of fun w => ?_
  unfold arrSize at h
  split at h
  · rename_i m E hu
    obtain ⟨s, hs, he⟩ := Option.map_eq_some_iff.1 h
    injection he with he1 he2
    subst he1; subst he2
    simp [Instr.indexAt, asIntOf, run_und hu, Result.andThen, Instr.sureAddr, h1, h2, run_size hs, addr_add]
  · cases h

section ints
variable (P : Program) (T : TypeId) (k : IntKind) (a b : Int) (K : Value → Prop)
@[simp] theorem pure_lss : pureP P (binS .lss T (.int k a) (.int k b)) K ↔ K (.bool (decide (a < b))) := pureP_of fun w => by simp [binS, binOp, Op.intCmp]
@[simp] theorem pure_leq : pureP P (binS .leq T (.int k a) (.int k b)) K ↔ K (.bool (decide (a ≤ b))) := pureP_of fun w => by simp [binS, binOp, Op.intCmp]
@[simp] theorem pure_gtr : pureP P (binS .gtr T (.int k a) (.int k b)) K ↔ K (.bool (decide (b < a))) := pureP_of fun w => by simp [binS, binOp, Op.intCmp]
@[simp] theorem pure_geq : pureP P (binS .geq T (.int k a) (.int k b)) K ↔ K (.bool (decide (b ≤ a))) := pureP_of fun w => by simp [binS, binOp, Op.intCmp]
@[simp] theorem pure_eql : pureP P (binS .eql T (.int k a) (.int k b)) K ↔ K (.bool (decide (a = b))) := pureP_of fun w => by
  simp only [binS, binOp, Op.intCmp, ne_eq, not_true_eq_false, if_false]
  show Result.ok (Value.bool (a == b)) w = _
  congr 2
@[simp] theorem pure_neq : pureP P (binS .neq T (.int k a) (.int k b)) K ↔ K (.bool (decide (a ≠ b))) := pureP_of fun w => by
  simp only [binS, binOp, Op.intCmp, ne_eq, not_true_eq_false, if_false]
  show Result.ok (Value.bool (a != b)) w = _
  congr 2
  rw [Bool.eq_iff_iff]
  simp
@[simp] theorem pure_add : pureP P (binS .add T (.int k a) (.int k b)) K ↔ K (.int k (k.wrap (a + b))) := pureP_of fun w => by simp [binS, binOp, Op.intArith]
@[simp] theorem pure_sub : pureP P (binS .sub T (.int k a) (.int k b)) K ↔ K (.int k (k.wrap (a - b))) := pureP_of fun w => by simp [binS, binOp, Op.intArith]
@[simp] theorem pure_mul : pureP P (binS .mul T (.int k a) (.int k b)) K ↔ K (.int k (k.wrap (a * b))) := pureP_of fun w => by simp [binS, binOp, Op.intArith]
end ints
theorem equal_bool {P : Program} {T : TypeId} (h : P.underlying T = some .bool) (a b : Bool) (w : World) : (Op.equal T (.bool a) (.bool b) : Sem Bool).run P w = .ok (a == b) w := by
  show (Op.equalIn (9999 + 1) T (.bool a) (.bool b)).run P w = _
  unfold Op.equalIn
  simp [run_und h, Result.andThen]
theorem pure_eqB {P : Program} {T : TypeId} (h : P.underlying T = some .bool) (a b : Bool) (K : Value → Prop) : pureP P (binS .eql T (.bool a) (.bool b)) K ↔ K (.bool (a == b)) := pureP_of fun w => by
  show (do pure (.bool (← Op.equal T (.bool a) (.bool b))) : Sem Value).run P w = _
  simp [equal_bool h, Result.andThen]
theorem pure_neB {P : Program} {T : TypeId} (h : P.underlying T = some .bool) (a b : Bool) (K : Value → Prop) : pureP P (binS .neq T (.bool a) (.bool b)) K ↔ K (.bool (a != b)) := pureP_of fun w => by
  show (do pure (.bool (!(← Op.equal T (.bool a) (.bool b)))) : Sem Value).run P w = _
  simp [equal_bool h, Result.andThen, bne]
/-- A slice, a map, a pointer held against nil. -/
theorem pure_eqS {P : Program} {T E : TypeId} (h : P.underlying T = some (.slice E)) (a : Option Addr) (n c : Nat) (K : Value → Prop) : pureP P (binS .eql T (.slice a n c) (.slice none 0 0)) K ↔ K (.bool a.isNone) := pureP_of fun w => by
  show (do pure (.bool (← Op.equal T (.slice a n c) (.slice none 0 0))) : Sem Value).run P w = _
  have : (Op.equalIn (9999 + 1) T (.slice a n c) (.slice none 0 0)).run P w = .ok a.isNone w := by
    unfold Op.equalIn
    cases a <;> simp [run_und h, Result.andThen]
  unfold Op.equal Op.maxDepth
  simp [this, Result.andThen]
theorem pure_eqM {P : Program} {T A B : TypeId} (h : P.underlying T = some (.map A B)) (r : Option Nat) (K : Value → Prop) : pureP P (binS .eql T (.map r) (.map none)) K ↔ K (.bool r.isNone) := pureP_of fun w => by
  show (do pure (.bool (← Op.equal T (.map r) (.map none))) : Sem Value).run P w = _
  have : (Op.equalIn (9999 + 1) T (.map r) (.map none)).run P w = .ok r.isNone w := by
    unfold Op.equalIn
    cases r <;> simp [run_und h, Result.andThen]
  unfold Op.equal Op.maxDepth
  simp [this, Result.andThen]
theorem pure_eqP {P : Program} {T E : TypeId} (h : P.underlying T = some (.pointer E)) (r : Option Addr) (K : Value → Prop) : pureP P (binS .eql T (.pointer r) (.pointer none)) K ↔ K (.bool r.isNone) := pureP_of fun w => by
  show (do pure (.bool (← Op.equal T (.pointer r) (.pointer none))) : Sem Value).run P w = _
  have : (Op.equalIn (9999 + 1) T (.pointer r) (.pointer none)).run P w = .ok r.isNone w := by
    unfold Op.equalIn
    cases r <;> simp [run_und h, Result.andThen]
  unfold Op.equal Op.maxDepth
  simp [this, Result.andThen]
theorem pure_lenS {P : Program} {T E : TypeId} (h : P.underlying T = some (.slice E)) (ty : TypeId) (a : Option Addr) (n c : Nat) (K : Value → Prop) : pureP P (Builtin.len_ #[T] ty #[.slice a n c]) K ↔ K (.int .i64 n) := pureP_of fun w => by
  simp [Builtin.len_, run_und h, Result.andThen, goInt]
theorem pure_conv {P : Program} {S T : TypeId} {k : IntKind} (hs : ∃ j, P.underlying S = some (.int j)) (h : P.underlying T = some (.int k)) (j : IntKind) (n : Int) (K : Value → Prop) : pureP P (convert S T (.int j n)) K ↔ K (.int k (k.wrap n)) := pureP_of fun w => by
  obtain ⟨_, hs⟩ := hs
  simp [convert, run_und h, run_und hs, Result.andThen, Conv.intToInt]
@[simp] theorem pure_not (P : Program) (b : Bool) (K : Value → Prop) : pureP P (Op.unary .not (.bool b)) K ↔ K (.bool (!b)) := pureP_of fun w => by simp [Op.unary]
@[simp] theorem pure_ext0 (P : Program) (a : Value) (l : List Value) (K : Value → Prop) : pureP P (Instr.extract (.tuple ⟨a :: l⟩) 0) K ↔ K a := pureP_of fun w => by simp [Instr.extract]
@[simp] theorem pure_ext1 (P : Program) (a b : Value) (l : List Value) (K : Value → Prop) : pureP P (Instr.extract (.tuple ⟨a :: b :: l⟩) 1) K ↔ K b := pureP_of fun w => by simp [Instr.extract]
@[simp] theorem pure_ext2 (P : Program) (a b c : Value) (l : List Value) (K : Value → Prop) : pureP P (Instr.extract (.tuple ⟨a :: b :: c :: l⟩) 2) K ↔ K c := pureP_of fun w => by simp [Instr.extract]
end Go.Proofs.Ytbcmoikpmmjlkaa.Eng
