/- An engine for walks: the weakest precondition of a function's code over a partly known frame, computed by recursion on the code, and its soundness over the kit's own 'wp'. -/
import Derived.OrdersHeld
import Derived.TacticsIn
import Derived.RangeFuncLeaves
import Derived.RangeFuncCalls
import Derived.RangeFuncRecord
import Derived.RangeFuncIn
import Derived.KernelRfl
import Derived.Below
namespace Go.Proofs.Ytbcmoikpmmjlkaa.Eng
open Go

inductive Slot where
  | unk
  | undf
  | lit (b : Bool)
  | val (v : Value)
def Slot.known : Slot → Bool | .unk => false | _ => true
def Slot.v : Slot → Value | .unk => undef | .undf => undef | .lit b => .bool b | .val v => v

structure Env where
  get : Nat → Slot
  ds : List Nat

def Env.put (e : Env) (n : Nat) (s : Slot) : Env := { e with get := fun m => bif Nat.beq m n then s else e.get m }
def Env.putO (e : Env) (d : Option Tmp) (s : Slot) : Env := match d with | none => e | some n => e.put n s
def Env.ev (e : Env) : Operand → Slot
  | .tmp t => e.get t
  | .const v => match v with | .bool b => .lit b | v => .val v
  | .global g => .val (.pointer (some ⟨g, 0, none⟩))
  | .func f => .val (.func (.func f) #[] #[])
def Env.ρ (e : Env) (x : Operand) : Value := (e.ev x).v
def mark (D : Nat) : Deferred := { target := .collected D, args := #[] }

structure Rel (N : Nat) (e : Env) (a : Act) : Prop where
  size : a.tmps.size = N
  defers : a.defers = e.ds.map mark
  get : ∀ t, (e.get t).known = true → a.tmps.getD t undef = (e.get t).v

theorem Rel.ev {N : Nat} {e : Env} {a : Act} (h : Rel N e a) {x : Operand} (hk : (e.ev x).known = true) : a.eval x = e.ρ x := by
  cases x with
  | tmp t => exact h.get t hk
  | const v => cases v <;> rfl
  | global g => rfl
  | func f => rfl

def dstOk (N : Nat) : Option Tmp → Bool | none => true | some d => Nat.blt d N

theorem getD_set_self {xs : Array Value} {d : Nat} (h : d < xs.size) (v : Value) : (xs.setIfInBounds d v).getD d undef = v := by
  simp [Array.getD_eq_getD_getElem?, h]
theorem getD_set_ne {xs : Array Value} {d m : Nat} (h : m ≠ d) (v : Value) : (xs.setIfInBounds d v).getD m undef = xs.getD m undef := by
  simp [Array.getD_eq_getD_getElem?, Array.getElem?_setIfInBounds_ne (Ne.symm h)]

theorem Rel.put {N : Nat} {e : Env} {a : Act} (h : Rel N e a) {d : Option Tmp} (hd : dstOk N d = true) {s : Slot} {v : Value} (hv : s.known = true → v = s.v) :
    Rel N (e.putO d s) (a.put d v) := by
  cases d with
  | none => exact h
  | some d =>
    have hd' : d < a.tmps.size := by rw [h.size]; exact of_eq_true (Nat.blt_eq ▸ eq_true hd)
    refine ⟨by simp [Act.put, h.size], h.defers, fun t ht => ?_⟩
    show (a.tmps.setIfInBounds d v).getD t undef = (bif Nat.beq t d then s else e.get t).v
    have ht' : (bif Nat.beq t d then s else e.get t).known = true := ht
    cases hb : Nat.beq t d with
    | true =>
      rw [hb] at ht'
      obtain rfl := Nat.eq_of_beq_eq_true hb
      rw [getD_set_self hd']
      exact hv ht'
    | false =>
      rw [hb] at ht'
      have hne : t ≠ d := fun e => by subst e; simp at hb
      rw [getD_set_ne hne]
      exact h.get t ht'

theorem Rel.refine {N : Nat} {e : Env} {a : Act} (h : Rel N e a) {t : Nat} {b : Bool} (hv : a.tmps.getD t undef = .bool b) : Rel N (e.put t (.lit b)) a := by
  refine ⟨h.size, h.defers, fun m hm => ?_⟩
  show _ = (bif Nat.beq m t then Slot.lit b else e.get m).v
  have hm' : (bif Nat.beq m t then Slot.lit b else e.get m).known = true := hm
  cases hb : Nat.beq m t with
  | true => obtain rfl := Nat.eq_of_beq_eq_true hb; exact hv
  | false => rw [hb] at hm'; exact h.get m hm'

/-! ### The primitives -/

def retK (K : Value → World → Prop) : Ending → World → Prop
  | .returned v, w => K v w
  | _, _ => False

structure S (P : Program) (s : Sem Value) (w : World) (K : Value → World → Prop) : Prop where
  out : ∃ v w', s.run P w = .ok v w' ∧ K v w'
structure U (P : Program) (s : Sem Unit) (w : World) (K : World → Prop) : Prop where
  out : ∃ w', s.run P w = .ok () w' ∧ K w'
structure ifV (v : Value) (A B : Prop) : Prop where
  out : ∃ b, v = .bool b ∧ (b = true → A) ∧ (b = false → B)
structure joinP (A : (List Value → World → Prop) → Prop) (R : List Value → World → Prop) : Prop where
  out : A R
structure loopP (s0 : List Value) (w : World) (B : List Value → World → (List Value → World → Prop) → Prop) : Prop where
  out : ∃ (I : List Value → World → Prop) (μ : List Value → World → Nat), I s0 w ∧ ∀ s w, I s w → B s w (fun s' w' => I s' w' ∧ μ s' w' < μ s w)

def callSem (fv : Value) (args : Array Value) : Sem Next := do let d ← Deferred.ofValue fv args; invoke d.target d.args
/-- A call of a function's value: it enters a Go function, or yields at once, or (r) begins a round of a range over a function. -/
structure callV (P : Program) (r : Bool) (fv : Value) (args : Array Value) (w : World) (K : Value → World → Prop) : Prop where
  out : (∃ f as, (callSem fv args).run P w = .ok (.enter f as) w ∧ Calls P f as w (retK K)) ∨
  (∃ v w', (callSem fv args).run P w = .ok (.value v) w' ∧ K v w') ∨
  (r = true ∧ ∃ l fn tmps assign body, (callSem fv args).run P w = .ok (.round l fn tmps assign body) w ∧ RoundIn Fence.wide 0 P l fn tmps assign body w (retK K))
abbrev Fv (n : Nat) : Value := .func (.func n) #[] #[]

/-! ### What an operation reads and writes, as functions of the heap -/

inductive Kind where
  | pure
  | reader
  | writer
  deriving DecidableEq
def isMapT (P : Program) (t : TypeId) : Bool := match P.underlying t with | some (.map ..) => true | _ => false
def isIntT (P : Program) (t : TypeId) : Bool := match P.underlying t with | some (.int _) => true | _ => false
def isStrT (P : Program) (t : TypeId) : Bool := match P.underlying t with | some .string => true | _ => false
def kindOf (P : Program) : Op → Kind
  | .move _ | .assign _ | .pick .. | .fieldAddr .. | .indexAddr .. | .nilCheck _ | .binOp .. | .unOp .. | .build .. | .extract .. | .slice .. | .field .. | .index .. | .makeFunc .. | .makeInterface .. => .pure
  | .load .. | .lookup .. | .entry .. => .reader
  | .convert s d _ => bif isIntT P s && isIntT P d then .pure else bif isStrT P d then .reader else .writer
  | .call { callee := .builtin b, argTypes, .. } => match b with
    | .len => bif isMapT P (argTypes.getD 0 0) then .reader else .pure
    | .cap | .max | .min => .pure
    | _ => .writer
  | _ => .writer

def cellOf (x : Option Obj) (o : Nat) : Option Value := match x with | some (.cells c _ _) => c[o]? | _ => none
def cellsOf (x : Option Obj) (o n : Nat) : Option (Array Value) := match x with | some (.cells c _ _) => if o + n ≤ c.size then some (c.extract o (o + n)) else none | _ => none
inductive Sh where
  | one
  | agg (n : Nat)
def shapeT (P : Program) (T : TypeId) : Option Sh :=
  match P.underlying T with
  | some (.struct _) | some (.array _ _) => (P.info? T).map fun i => .agg i.size
  | some _ => some .one
  | none => none
def ldSh (s : Option Sh) (x : Option Obj) (o : Nat) : Option Value := match s with | some .one => cellOf x o | some (.agg n) => (cellsOf x o n).map .agg | none => none
def loadW (P : Program) (T : TypeId) (v : Value) (w : World) : Option Value := match v with | .pointer (some ⟨b, o, none⟩) => ldSh (shapeT P T) w.heap[b]? o | _ => none

def spliceL : List Value → Nat → List Value → List Value
  | c, _, [] => c
  | c, o, x :: xs => spliceL (c.set o x) (o + 1) xs
def flatV : Value → Bool | .agg _ | .tuple _ => false | _ => true
def sizeT (P : Program) (T : TypeId) : Option Nat := (P.info? T).map (·.size)
def zeroT (P : Program) (T : TypeId) : Option Value := (P.info? T).bind (·.zero)
def okFr (fr : Nat × Nat) (o n : Nat) : Bool := Nat.ble fr.2 o || Nat.ble (o + n) fr.1
def storeOf (x : Option Obj) (o : Nat) (n : Option Nat) (vs : List Value) : Option Obj :=
  match x with
  | some (.cells c E fr) => if n = some vs.length ∧ o + vs.length ≤ c.size ∧ okFr fr o vs.length = true ∧ (∀ v ∈ vs, flatV v = true) then some (.cells (spliceL c.toList o vs).toArray E fr) else none
  | _ => none
def storeW (P : Program) (T : TypeId) (v x : Value) (w : World) : Option World :=
  match v with
  | .pointer (some ⟨b, o, none⟩) => (storeOf w.heap[b]? o (sizeT P T) x.cells.toList).map fun ob => { w with heap := w.heap.setIfInBounds b ob }
  | _ => none

/-- What a run leaves where it leaves the world alone. -/
noncomputable def runR (P : Program) (s : Sem Value) (w : World) : Option Value := match s.run P w with | .ok v w' => by classical exact if w' = w then some v else none | .halt _ _ => none

structure getO (x : Option Value) (K : Value → Prop) : Prop where
  out : ∃ v, x = some v ∧ K v
structure getU (x : Option World) (K : World → Prop) : Prop where
  out : ∃ w, x = some w ∧ K w
structure newP (z : Option Value) (T : TypeId) (w : World) (K : Value → World → Prop) : Prop where
  out : ∃ v, z = some v ∧ K (.pointer (some ⟨w.heap.size, 0, none⟩)) { w with heap := w.heap.push (.cells v.cells T) }

theorem load_run {P : Program} {w : World} {b o : Nat} {v : Value} (h : cellOf w.heap[b]? o = some v) : (load ⟨b, o, none⟩ : Sem Value).run P w = .ok v w := by
  have hc : w.cell? ⟨b, o, none⟩ = some v := by
    unfold cellOf at h
    unfold World.cell?
    split at h
    · rename_i c E fr hb; simp only [hb]; exact h
    · cases h
  simp [load, Sem.run, hc]

theorem addr_add (b o i : Nat) : (Addr.mk b o none).add i = ⟨b, o + i, none⟩ := by
  unfold Addr.add
  split
  · rename_i h; subst h; rfl
  · rfl

theorem loadCells_run {P : Program} {w : World} {b o E : Nat} {c : Array Value} {fr : Nat × Nat} (hb : w.heap[b]? = some (.cells c E fr)) : ∀ (n i : Nat) (acc : Array Value), o + i + n ≤ c.size →
    (loadCellsFrom ⟨b, o, none⟩ i n acc).run P w = .ok (acc ++ c.extract (o + i) (o + i + n)) w
  | 0, i, acc, _ => by simp [loadCellsFrom, Nat.min_le_left]
  | n + 1, i, acc, h => by
    have hlt : o + i < c.size := by omega
    have hc : cellOf w.heap[b]? (o + i) = some c[o + i] := by rw [hb]; simp [cellOf, hlt]
    have hl : (load ((Addr.mk b o none).add i) : Sem Value).run P w = .ok c[o + i] w := by rw [addr_add]; exact load_run hc
    unfold loadCellsFrom
    simp only [Sem.run_bind, hl, Result.andThen]
    rw [loadCells_run hb n (i + 1) _ (by omega)]
    congr 1
    apply Array.ext'
    simp only [Array.toList_append, Array.toList_push, Array.toList_extract, List.append_assoc]
    congr 1
    rw [List.extract_eq_take_drop, List.extract_eq_take_drop, show o + i + (n + 1) - (o + i) = n + 1 from by omega, show o + (i + 1) + n - (o + (i + 1)) = n from by omega]
    have hd : c.toList.drop (o + i) = c[o + i] :: c.toList.drop (o + (i + 1)) := List.drop_eq_getElem_cons (by simpa using hlt)
    rw [hd, List.take_succ_cons]
    rfl

theorem loadW_run {P : Program} {T : TypeId} {v x : Value} {w : World} (h : loadW P T v w = some x) : (Instr.loadAt T v).run P w = .ok x w := by
  unfold loadW at h
  split at h
  · rename_i b o
    unfold Instr.loadAt Instr.sureAddr
    simp only [pure_bind]
    unfold ldSh shapeT at h
    have hund : ∀ d, P.underlying T = some d → (underlying T : Sem TypeDesc).run P w = .ok d w := fun d hd => by
      have hp : (program : Sem Program).run P w = .ok P w := rfl
      simp [underlying, hp, hd, Result.andThen]
    have hsz : ∀ i, P.info? T = some i → (sizeOf T : Sem Nat).run P w = .ok i.size w := fun i hi => by
      have hp : (program : Sem Program).run P w = .ok P w := rfl
      simp [sizeOf, typeInfo, hp, hi, Result.andThen]
    have aggCase : ∀ {i : TypeInfo} {x : Value}, (isAgg T : Sem Bool).run P w = .ok true w → P.info? T = some i → (cellsOf w.heap[b]? o i.size).map Value.agg = some x → (loadVar T ⟨b, o, none⟩ : Sem Value).run P w = .ok x w := by
      intro i x hagg hi hx
      obtain ⟨l, hl, rfl⟩ := Option.map_eq_some_iff.1 hx
      unfold cellsOf at hl
      split at hl
      · rename_i c E fr hb
        split at hl
        · rename_i hle
          injection hl with hl
          have := loadCells_run (P := P) hb i.size 0 #[] (by omega)
          simp only [loadVar, Sem.run_bind, hagg, Result.andThen, hsz i hi, loadCells, if_true, this, Sem.run_pure, Nat.add_zero, ← hl]
          simp
        · cases hl
      · cases hl
    split at h
    · -- one cell
      rename_i hs
      split at hs
      · cases hi : P.info? T <;> rw [hi] at hs <;> cases hs
      · cases hi : P.info? T <;> rw [hi] at hs <;> cases hs
      · rename_i d hn1 hn2 hd
        have hagg : (isAgg T : Sem Bool).run P w = .ok false w := by
          unfold isAgg
          simp only [Sem.run_bind, hund d hd, Result.andThen]
          cases d with
          | struct fs => exact (hn1 fs rfl).elim
          | array n e => exact (hn2 n e rfl).elim
          | _ => rfl
        simp only [loadVar, Sem.run_bind, hagg, Result.andThen]
        exact load_run h
      · cases hs
    · rename_i n hs
      split at hs
      · rename_i fs hd
        cases hi : P.info? T with
        | none => rw [hi] at hs; cases hs
        | some i =>
          rw [hi] at hs
          injection hs with hs
          injection hs with hs
          subst hs
          exact aggCase (by simp [isAgg, hund _ hd, Result.andThen]) hi h
      · rename_i n e hd
        cases hi : P.info? T with
        | none => rw [hi] at hs; cases hs
        | some i =>
          rw [hi] at hs
          injection hs with hs
          injection hs with hs
          subst hs
          exact aggCase (by simp [isAgg, hund _ hd, Result.andThen]) hi h
      · cases hs
      · cases hs
    · cases h
  · cases h

theorem setCell_eq {w : World} {b o E : Nat} {c : Array Value} {fr : Nat × Nat} (hb : w.heap[b]? = some (.cells c E fr)) (v : Value) :
    w.setCell ⟨b, o, none⟩ v = { w with heap := w.heap.setIfInBounds b (.cells (c.setIfInBounds o v) E fr) } := by
  unfold World.setCell
  congr 1
  apply Array.ext_getElem?
  intro i
  have hlt := (Array.getElem?_eq_some_iff.1 hb).1
  rw [Array.getElem?_modify]
  by_cases h : b = i
  · subst h
    rw [if_pos rfl, hb]
    simp [hlt]
  · rw [if_neg h, Array.getElem?_setIfInBounds_ne h]

theorem store_run {P : Program} {w : World} {b o E : Nat} {c : Array Value} {fr : Nat × Nat} {v : Value} (hb : w.heap[b]? = some (.cells c E fr)) (ho : o < c.size) (hf : okFr fr o 1 = true) (hv : flatV v = true) :
    (store ⟨b, o, none⟩ v : Sem Unit).run P w = .ok () { w with heap := w.heap.setIfInBounds b (.cells (c.setIfInBounds o v) E fr) } := by
  have hc : w.cell? ⟨b, o, none⟩ = some c[o] := by simp [World.cell?, hb, ho]
  have hfz : w.frozen? ⟨b, o, none⟩ = false := by
    unfold okFr at hf
    obtain ⟨lo, hi⟩ := fr
    simp only [Bool.or_eq_true, Nat.ble_eq] at hf
    simp only [World.frozen?, hb, Bool.and_eq_false_iff, decide_eq_false_iff_not]
    omega
  rw [← setCell_eq hb]
  cases v <;> first | (simp [flatV] at hv; done) | simp [store, Sem.run, hc, hfz]

theorem storeCells_run {P : Program} {b o E : Nat} {fr : Nat × Nat} : ∀ (vs : List Value) (i : Nat) (w : World) (c : Array Value), w.heap[b]? = some (.cells c E fr) → o + i + vs.length ≤ c.size → (∀ v ∈ vs, flatV v = true) → okFr fr (o + i) vs.length = true →
    (storeCells ⟨b, o, none⟩ vs i).run P w = .ok () { w with heap := w.heap.setIfInBounds b (.cells (spliceL c.toList (o + i) vs).toArray E fr) }
  | [], i, w, c, hb, _, _, _ => by
    have hlt := (Array.getElem?_eq_some_iff.1 hb).1
    have he : w.heap.setIfInBounds b (.cells c E fr) = w.heap := by
      apply Array.ext_getElem?
      intro j
      by_cases h : b = j
      · subst h; simp [hlt, ← hb]
      · simp [Array.getElem?_setIfInBounds_ne h]
    simp [storeCells, spliceL, he]
  | v :: rest, i, w, c, hb, hle, hf, hfr => by
    simp only [List.length_cons] at hle hfr
    have h1 : okFr fr (o + i) 1 = true := by
      unfold okFr at hfr ⊢
      simp only [Bool.or_eq_true, Nat.ble_eq] at hfr ⊢
      omega
    have h2 : okFr fr (o + (i + 1)) rest.length = true := by
      unfold okFr at hfr ⊢
      simp only [Bool.or_eq_true, Nat.ble_eq] at hfr ⊢
      omega
    have hs := store_run (P := P) (o := o + i) hb (by omega) h1 (hf v (by simp))
    have hlt := (Array.getElem?_eq_some_iff.1 hb).1
    unfold storeCells
    simp only [Sem.run_bind, addr_add, hs, Result.andThen]
    rw [storeCells_run (E := E) (fr := fr) rest (i + 1) _ (c.setIfInBounds (o + i) v) (by simp [hlt]) (by simp; omega) (fun x hx => hf x (by simp [hx])) h2]
    simp only [Array.setIfInBounds_setIfInBounds, Array.toList_setIfInBounds, spliceL, Nat.add_assoc]

theorem storeW_run {P : Program} {T : TypeId} {v x : Value} {w w' : World} (h : storeW P T v x w = some w') : (Instr.storeAt T v x).run P w = .ok () w' := by
  unfold storeW at h
  split at h
  · rename_i b o
    obtain ⟨ob, hob, rfl⟩ := Option.map_eq_some_iff.1 h
    unfold storeOf at hob
    split at hob
    · rename_i c E fr hb
      split at hob
      · rename_i hc
        obtain ⟨h1, h2, h3, h4⟩ := hc
        injection hob with hob
        subst hob
        have hsz : (sizeOf T : Sem Nat).run P w = .ok x.cells.toList.length w := by
          have hp : (program : Sem Program).run P w = .ok P w := rfl
          unfold sizeT at h1
          cases hi : P.info? T with
          | none => rw [hi] at h1; cases h1
          | some i =>
            rw [hi] at h1
            injection h1 with h1
            simp [sizeOf, typeInfo, hp, hi, Result.andThen, h1]
        unfold Instr.storeAt Instr.sureAddr
        simp only [pure_bind]
        unfold storeVar
        have hx : x.cells.size = x.cells.toList.length := by simp
        simp only [Sem.run_bind, hsz, Result.andThen, hx, ne_eq, not_true_eq_false, if_false]
        have := storeCells_run (P := P) (o := o) x.cells.toList 0 w c hb (by omega) h4 (by simpa using h3)
        simpa using this
      · cases hob
    · cases hob
  · cases h

/-! ### One operation -/

def nilS (v : Value) : Sem Value := match v with | .pointer (some a) => pure (.pointer (some a)) | _ => stuck "nil"
def binS (op : BinOp) (t : TypeId) (a b : Value) : Sem Value := match a, b with | .nilIface, .nilIface => stuck "" | _, _ => binOp op t a b
def guardFree (P : Program) (op : BinOp) (t : TypeId) : Bool := match op with | .eql | .neq => !(P.eqGuardType P.depth t) | _ => true
def allocS (t : TypeId) : Sem Value := Instr.alloc t true (.tuple #[])

def builtinSem (b : Builtin) (ats : Array TypeId) (t : TypeId) (as : Array Value) : Option (Sem Value) :=
  match b with
  | .append => some (Builtin.append_ ats t as)
  | .cap => some (Builtin.cap_ ats t as)
  | .clear => some (Builtin.clear_ ats t as)
  | .copy => some (Builtin.copy_ ats t as)
  | .delete => some (Builtin.delete_ ats t as)
  | .len => some (Builtin.len_ ats t as)
  | .max => some (Builtin.max_ ats t as)
  | .min => some (Builtin.min_ ats t as)
  | _ => none

def opSem (P : Program) (ρ : Operand → Value) (ty : TypeId) : Op → Option (Sem Value)
  | .alloc t => some (allocS t)
  | .box t x => some (Instr.box t (ρ x))
  | .build t ps => some (Instr.build t (ps.toList.map fun (i, x) => (i, ρ x)).toArray)
  | .buildSlice t len ps => some (Instr.buildSlice t len (ps.toList.map fun (i, x) => (i, ρ x)).toArray)
  | .load t a => some (Instr.loadAt t (ρ a))
  | .nilCheck x => some (nilS (ρ x))
  | .binOp op t x y _ => bif guardFree P op t then some (binS op t (ρ x) (ρ y)) else none
  | .unOp op _ x => some (Op.unary op (ρ x))
  | .convert s d x => some (convert s d (ρ x))
  | .makeInterface t x => some (Instr.makeInterface t (ρ x))
  | .makeFunc fn first cap => some (Instr.makeFunc fn (first.toList.map ρ).toArray (cap.toList.map ρ).toArray)
  | .makeMap t r => some (Instr.makeMap t (r.map ρ))
  | .makeSlice t l c => some (Instr.makeSlice t (ρ l) (ρ c))
  | .slice t x lo hi mx => some (Instr.sliceAt t (ρ x) (lo.map ρ) (hi.map ρ) (mx.map ρ))
  | .fieldAddr s x f => some (Instr.fieldAt s (ρ x) f)
  | .field t x f => some (Instr.field t (ρ x) f)
  | .indexAddr t x i => some (Instr.indexAt t (ρ x) (ρ i))
  | .index t x i => some (Instr.index t (ρ x) (ρ i))
  | .lookup t x i ok => some (Instr.lookup t (ρ x) (ρ i) ok)
  | .mapEntry t m k => some (Instr.mapEntry t (ρ m) (ρ k))
  | .range t x => some (Instr.range t (ρ x))
  | .next it s => some (Instr.next (ρ it) s ty)
  | .entry it => some (Instr.entry (ρ it))
  | .typeAssert x t asserted ok => some (Instr.typeAssert (ρ x) t asserted ok)
  | .extract x i => some (Instr.extract (ρ x) i)
  | .call { callee := .builtin b, args, argTypes } => builtinSem b argTypes ty (args.toList.map ρ).toArray
  | _ => none

def opSemU (ρ : Operand → Value) : Op → Option (Sem Unit)
  | .store t a x => some (Instr.storeAt t (ρ a) (ρ x))
  | .mapUpdate t m k x => some (Instr.mapUpdate t (ρ m) (ρ k) (ρ x))
  | .insert t m k x => some (Instr.mapUpdate t (ρ m) (ρ k) (ρ x))
  | .entryStore t m s x => some (Instr.entryStore t (ρ m) (ρ s) (ρ x))
  | _ => none

theorem run_value {P : Program} {s : Sem Value} {w w' : World} {v : Value} (h : s.run P w = .ok v w') : (do pure (Next.value (← s)) : Sem Next).run P w = .ok (.value v) w' := by
  simp [h, Result.andThen]
theorem run_skip {P : Program} {s : Sem Unit} {w w' : World} (h : s.run P w = .ok () w') : (do s; pure Next.skip : Sem Next).run P w = .ok .skip w' := by
  simp [h, Result.andThen]

theorem nil_exec {P : Program} {ρ : Operand → Value} {o : Oper} {x : Operand} (ho : o.op = .nilCheck x) {w w' : World} {v : Value} (h : (nilS (ρ x)).run P w = .ok v w') :
    (execOp ρ o).run P w = .ok (.value v) w' := by
  unfold nilS at h
  simp only [execOp, ho]
  split at h
  · rename_i a ha
    rw [ha]
    simpa using h
  · simp [stuck] at h

theorem guard_exec {P : Program} {op : BinOp} {t : TypeId} {x y : Operand} {a b : Value} (hg : guardFree P op t = true) (hn : ¬ (a = .nilIface ∧ b = .nilIface)) (w : World) :
    (eqGuard op t x y a b).run P w = .ok () w := by
  unfold eqGuard
  have hp : ∀ w : World, (program : Sem Program).run P w = .ok P w := fun w => rfl
  cases op <;> simp [guardFree] at hg ⊢
  all_goals
    split
    · exact absurd ⟨rfl, rfl⟩ hn
    · simp [hp, Result.andThen, hg]
    · rfl

theorem bin_exec {P : Program} {ρ : Operand → Value} {o : Oper} {op : BinOp} {t t' : TypeId} {x y : Operand} (ho : o.op = .binOp op t x y t') (hg : guardFree P op t = true) {w w' : World} {v : Value}
    (h : (binS op t (ρ x) (ρ y)).run P w = .ok v w') : (execOp ρ o).run P w = .ok (.value v) w' := by
  have hn : ¬ (ρ x = .nilIface ∧ ρ y = .nilIface) := by
    rintro ⟨h1, h2⟩
    rw [h1, h2] at h
    simp [binS, stuck] at h
  have hb : (binOp op t (ρ x) (ρ y)).run P w = .ok v w' := by
    unfold binS at h
    split at h
    · simp [stuck] at h
    · exact h
  simp only [execOp, ho]
  exact run_value (by simp [guard_exec hg hn w, Result.andThen, hb])

theorem map_list {α β : Type} (f : α → β) (xs : Array α) : (xs.toList.map f).toArray = xs.map f := by simp [← Array.toList_map]

theorem exec_val {P : Program} {ρ : Operand → Value} {o : Oper} {s : Sem Value} (hs : opSem P ρ o.type o.op = some s) {w w' : World} {v : Value} (h : s.run P w = .ok v w') :
    (execOp ρ o).run P w = .ok (.value v) w' := by
  generalize ho : o.op = op at hs
  cases op
  case nilCheck x => simp only [opSem, Option.some.injEq] at hs; subst hs; exact nil_exec ho h
  case binOp op t x y t' =>
    simp only [opSem] at hs
    cases hg : guardFree P op t with
    | false => rw [hg] at hs; cases hs
    | true => rw [hg] at hs; simp only [cond_true, Option.some.injEq] at hs; subst hs; exact bin_exec ho hg h
  case call c =>
    obtain ⟨callee, args, ats⟩ := c
    cases callee with
    | value f => simp [opSem] at hs
    | invoke r m => simp [opSem] at hs
    | builtin b =>
      simp only [opSem, map_list] at hs
      simp only [execOp, ho, resolve, pure_bind, invoke]
      cases b <;> simp only [builtinSem, Option.some.injEq, reduceCtorEq] at hs <;> subst hs <;> exact run_value h
  all_goals
    first
    | (simp only [opSem, reduceCtorEq] at hs; done)
    | (simp only [opSem, allocS, map_list, Option.some.injEq] at hs; subst hs; simp only [execOp, ho]; exact run_value h)

theorem exec_unit {P : Program} {ρ : Operand → Value} {o : Oper} {s : Sem Unit} (hs : opSemU ρ o.op = some s) {w w' : World} (h : s.run P w = .ok () w') :
    (execOp ρ o).run P w = .ok .skip w' := by
  generalize ho : o.op = op at hs
  cases op <;> simp only [opSemU, Option.some.injEq, reduceCtorEq] at hs <;> subst hs <;> simp only [execOp, ho] <;> exact run_skip h

def knows (e : Env) (op : Op) : Bool := op.operands.toList.all fun x => (e.ev x).known

def notSelect : Op → Bool | .select .. => false | _ => true
theorem exec_same {N : Nat} {e : Env} {a : Act} (hr : Rel N e a) {o : Oper} (hk : knows e o.op = true) (hs : notSelect o.op = true) : execOp a.eval o = execOp e.ρ o :=
  execOp_congr o (fun cs b h => by rw [h] at hs; cases hs) fun x hx => hr.ev (List.all_eq_true.1 hk x (by simpa using hx))


structure pureP (P : Program) (s : Sem Value) (K : Value → Prop) : Prop where
  out : ∃ v, (∀ w, s.run P w = .ok v w) ∧ K v
/-- What an operation that reads yields. -/
noncomputable def rdF (P : Program) (ρ : Operand → Value) (ty : TypeId) (op : Op) (w : World) : Option Value :=
  match op with
  | .load t a => loadW P t (ρ a) w
  | op => match opSem P ρ ty op with
    | some s => runR P s w
    | none => none
def genE (P : Program) (ty : TypeId) (op : Op) (ρ : Operand → Value) (w : World) (K : Slot → World → Prop) : Prop :=
  match kindOf P op with
  | .pure => match opSem P ρ ty op with
    | some s => pureP P s (fun v => K (.val v) w)
    | none => False
  | .reader => getO (rdF P ρ ty op w) (fun v => K (.val v) w)
  | .writer => match op with
    | .alloc t => newP (zeroT P t) t w (fun v w' => K (.val v) w')
    | .box t x => newP (some (ρ x)) t w (fun v w' => K (.val v) w')
    | .store t a x => getU (storeW P t (ρ a) (ρ x) w) (fun w' => K .unk w')
    | op => match opSem P ρ ty op with
      | some s => S P s w (fun v w' => K (.val v) w')
      | none => match opSemU ρ op with
        | some s => U P s w (fun w' => K .unk w')
        | none => False

theorem runR_run {P : Program} {s : Sem Value} {w : World} {v : Value} (h : runR P s w = some v) : s.run P w = .ok v w := by
  unfold runR at h
  split at h
  · rename_i v' w' hr
    split at h
    · rename_i hw
      injection h with h
      rw [hr, h, hw]
    · cases h
  · cases h
theorem runR_of {P : Program} {s : Sem Value} {w : World} {v : Value} (h : s.run P w = .ok v w) : runR P s w = some v := by
  unfold runR
  rw [h]
  simp

theorem new_run {P : Program} {t : TypeId} {v : Value} {w : World} : (newVar t v : Sem Addr).run P w = .ok ⟨w.heap.size, 0, none⟩ { w with heap := w.heap.push (.cells v.cells t) } := by
  simp [newVar, newRow, newObj, Sem.run, Result.andThen]

theorem rdF_run {P : Program} {ρ : Operand → Value} {ty : TypeId} {op : Op} {w : World} {v : Value} (h : rdF P ρ ty op w = some v) : ∃ s, opSem P ρ ty op = some s ∧ s.run P w = .ok v w := by
  unfold rdF at h
  split at h
  · exact ⟨_, rfl, loadW_run h⟩
  · split at h
    · rename_i s hs; exact ⟨s, hs, runR_run h⟩
    · cases h

theorem genE_spec {P : Program} {ty : TypeId} {op : Op} {ρ : Operand → Value} {w : World} {K : Slot → World → Prop} (h : genE P ty op ρ w K) :
    (∃ s v w', opSem P ρ ty op = some s ∧ s.run P w = .ok v w' ∧ K (.val v) w') ∨ (∃ s w', opSemU ρ op = some s ∧ s.run P w = .ok () w' ∧ K .unk w') := by
  unfold genE at h
  split at h
  · split at h
    · rename_i s hs
      obtain ⟨v, hv, hK⟩ := h
      exact .inl ⟨s, v, w, hs, hv w, hK⟩
    · exact h.elim
  · obtain ⟨v, hv, hK⟩ := h
    obtain ⟨s, hs, hr⟩ := rdF_run hv
    exact .inl ⟨s, v, w, hs, hr, hK⟩
  · split at h
    · rename_i t _
      obtain ⟨v, hv, hK⟩ := h
      refine .inl ⟨_, _, _, rfl, ?_, hK⟩
      unfold zeroT at hv
      cases hi : P.info? t with
      | none => rw [hi] at hv; cases hv
      | some i =>
        rw [hi] at hv
        have hz : i.zero = some v := hv
        have hp : (program : Sem Program).run P w = .ok P w := rfl
        simp [allocS, Instr.alloc, zeroValue, typeInfo, hp, hi, hz, Result.andThen, new_run]
    · rename_i t x _
      obtain ⟨v, hv, hK⟩ := h
      injection hv with hv
      subst hv
      exact .inl ⟨_, _, _, rfl, by simp [Instr.box, new_run, Result.andThen], hK⟩
    · rename_i t a x _
      obtain ⟨w', hw, hK⟩ := h
      exact .inr ⟨_, w', rfl, storeW_run hw, hK⟩
    · split at h
      · rename_i s hs
        obtain ⟨v, w', hr, hK⟩ := h
        exact .inl ⟨s, v, w', hs, hr, hK⟩
      · split at h
        · rename_i s hs
          obtain ⟨w', hr, hK⟩ := h
          exact .inr ⟨s, w', hs, hr, hK⟩
        · exact h.elim

def opAt : List Oper → Nat → Option Oper
  | [], _ => none
  | o :: _, 0 => some o
  | _ :: r, n + 1 => opAt r n
def getOp (ops : Array Oper) (i : Nat) : Option Oper := opAt ops.toList i
theorem opAt_eq : ∀ (l : List Oper) (i : Nat), opAt l i = l[i]?
  | [], _ => rfl
  | _ :: _, 0 => rfl
  | _ :: r, n + 1 => by simp [opAt, opAt_eq r n]
theorem getOp_eq (ops : Array Oper) (i : Nat) : getOp ops i = ops[i]? := by simp [getOp, opAt_eq]

/-- What an operation does behind its guard. -/
def actE (P : Program) (r : Bool) (o : Oper) (e : Env) (w : World) (K : Env → World → Prop) : Prop :=
  match o.op with
  | .move x | .assign x => bif (e.ev x).known then K (e.putO o.dst (e.ev x)) w else False
  | .pick c x y => match e.ev c with
    | .lit b => bif b then (bif (e.ev x).known then K (e.putO o.dst (e.ev x)) w else False) else (bif (e.ev y).known then K (e.putO o.dst (e.ev y)) w else False)
    | _ => False
  | .call { callee := .value f, args, .. } => bif (e.ev f).known && args.toList.all (fun x => (e.ev x).known) then
      callV P r (e.ρ f) (args.toList.map e.ρ).toArray w (fun v w' => K (e.putO o.dst (.val v)) w') else False
  | op => bif knows e op && notSelect op then genE P o.type op e.ρ w (fun s w' => K (e.putO o.dst s) w') else False

def doE (P : Program) (r : Bool) (N : Nat) (o : Oper) (e : Env) (w : World) (K : Env → World → Prop) : Prop :=
  bif dstOk N o.dst then actE P r o e w K else False

def skipE (N : Nat) (o : Oper) (e : Env) (w : World) (K : Env → World → Prop) : Prop :=
  bif dstOk N o.dst then K (e.putO o.dst .undf) w else False

/-- An operation, its guard looked at. -/
def stepE (P : Program) (r : Bool) (N : Nat) (ops : Array Oper) (o : Oper) (e : Env) (w : World) (K : Env → World → Prop) : Prop :=
  match o.guard with
  | none => doE P r N o e w K
  | some (j, want) =>
    match (getOp ops j).bind (·.dst) with
    | none => False
    | some t =>
      match e.get t with
      | .unk => False
      | .undf => skipE N o e w K
      | .lit b => bif (bif b then want else !want) then doE P r N o e w K else skipE N o e w K
      | .val v => ifV v (bif want then doE P r N o (e.put t (.lit true)) w K else skipE N o (e.put t (.lit true)) w K)
          (bif want then skipE N o (e.put t (.lit false)) w K else doE P r N o (e.put t (.lit false)) w K)

def opsE (P : Program) (r : Bool) (N : Nat) (ops : Array Oper) : List Oper → Env → World → (Env → World → Prop) → Prop
  | [], e, w, K => K e w
  | o :: rest, e, w, K => stepE P r N ops o e w (fun e' w' => opsE P r N ops rest e' w' K)

def fence : Option Nat → Fence | none => Fence.wide | some l => Fence.wide.inRound l
theorem fence_fn (ro : Option Nat) (f : FuncId) : (fence ro).fn f := by cases ro <;> exact trivial
theorem fence_depth (ro : Option Nat) : (fence ro).depth = none := by cases ro <;> rfl
theorem fence_round (ro : Option Nat) : (fence ro).round = ro := by cases ro <;> rfl
theorem fence_room (ro : Option Nat) (n : Nat) : (fence ro).room n := by cases ro <;> exact room_wide n
theorem calls_fence {ro : Option Nat} {n : Nat} {P : Program} {f : FuncId} {args : Array Value} {w : World} {R : Ending → World → Prop} (h : Calls P f args w R) : CallsIn (fence ro) n P f args w R := by
  cases ro
  · exact callsIn_wide.2 h
  · exact (callsIn_wide (n := n)).2 h
theorem round_fence {ro : Option Nat} {n : Nat} {P : Program} {l f : Nat} {tmps : Array Value} {assign body : Code} {w : World} {R : Ending → World → Prop} (h : RoundIn Fence.wide 0 P l f tmps assign body w R) : RoundIn (fence ro) n P l f tmps assign body w R := by
  obtain ⟨_, h⟩ := h
  refine ⟨fence_fn ro f, fun c cs _ => ?_⟩
  cases ro
  · exact h c cs (room_wide _)
  · exact h c cs (room_wide _)

/-- The kit's step, for any outcome that the engine knows. -/
theorem wpIn_value {ro : Option Nat} {n : Nat} {P : Program} {o : Oper} {a : Act} {w w' : World} {v : Value} {next : Act → World → Prop} {Q : Exit → Act → World → Prop} (hd : ∀ c, o.op ≠ .defer c)
    (h : (execOp a.eval o).run P w = .ok (.value v) w') (hk : next (a.put o.dst v) w') : o.wpIn (fence ro) n P a w next Q :=
  ⟨fun _ _ => fence_fn ro _, by rw [Oper.semAt_eq _ _ _ hd, h]; exact hk⟩
theorem wpIn_unit {ro : Option Nat} {n : Nat} {P : Program} {o : Oper} {a : Act} {w w' : World} {next : Act → World → Prop} {Q : Exit → Act → World → Prop} (hd : ∀ c, o.op ≠ .defer c)
    (h : (execOp a.eval o).run P w = .ok .skip w') (hk : next (a.put o.dst undef) w') : o.wpIn (fence ro) n P a w next Q :=
  ⟨fun _ _ => fence_fn ro _, by rw [Oper.semAt_eq _ _ _ hd, h]; exact hk⟩

theorem exec_call {ρ : Operand → Value} {o : Oper} {f : Operand} {args : Array Operand} {ats : Array TypeId} (ho : o.op = .call { callee := .value f, args, argTypes := ats }) : execOp ρ o = callSem (ρ f) (args.map ρ) := by
  simp only [execOp, ho, resolve, callSem]

theorem retK_next {ro : Option Nat} {n : Nat} {P : Program} {f : FuncId} {as : Array Value} {w : World} {a : Act} {dst : Option Tmp} {K : Value → World → Prop} {next : Act → World → Prop} {Q : Exit → Act → World → Prop}
    (h : Calls P f as w (retK K)) (hk : ∀ v w', K v w' → next (a.put dst v) w') :
    CallsIn (fence ro) n P f as w fun
      | .returned v, w'' => next (a.put dst v) w''
      | .panicked chain, w'' => Q (.panic chain) a w''
      | .outgrown, _ => LetsOut Q :=
  (calls_fence h).mono fun e w' he => by
    cases e with
    | returned v => exact hk v w' he
    | panicked c => exact he.elim
    | outgrown => exact he.elim

/-- What an operation comes to. -/
inductive Out (P : Program) (r : Bool) (N : Nat) (o : Oper) (e : Env) (a : Act) (w : World) (K : Env → World → Prop) : Prop
  | value {s : Slot} {v : Value} {w' : World} (hrun : (execOp a.eval o).run P w = .ok (.value v) w') (hrel : Rel N (e.putO o.dst s) (a.put o.dst v)) (hK : K (e.putO o.dst s) w')
  | skip {w' : World} (hrun : (execOp a.eval o).run P w = .ok .skip w') (hrel : Rel N (e.putO o.dst .unk) (a.put o.dst undef)) (hK : K (e.putO o.dst .unk) w')
  | enter {f : FuncId} {as : Array Value} (hrun : (execOp a.eval o).run P w = .ok (.enter f as) w) (hrel : ∀ v, Rel N (e.putO o.dst (.val v)) (a.put o.dst v)) (hc : Calls P f as w (retK fun v w' => K (e.putO o.dst (.val v)) w'))
  | round {l fn : Nat} {tmps : Array Value} {assign body : Code} (hr : r = true) (hrun : (execOp a.eval o).run P w = .ok (.round l fn tmps assign body) w) (hrel : ∀ v, Rel N (e.putO o.dst (.val v)) (a.put o.dst v))
      (hc : RoundIn Fence.wide 0 P l fn tmps assign body w (retK fun v w' => K (e.putO o.dst (.val v)) w'))

theorem actE_out {N : Nat} {P : Program} {r : Bool} {o : Oper} {e : Env} {a : Act} {w : World} {K : Env → World → Prop} (hr : Rel N e a) (hd : dstOk N o.dst = true) (h : actE P r o e w K) :
    (∀ c, o.op ≠ .defer c) ∧ Out P r N o e a w K := by
  unfold actE at h
  split at h
  · rename_i x ho
    cases hk : (e.ev x).known with
    | false => rw [hk] at h; exact h.elim
    | true =>
      rw [hk] at h
      exact ⟨fun c hc => (by rw [ho] at hc; cases hc), .value (by simp only [execOp, ho, hr.ev hk]; rfl) (hr.put hd fun _ => rfl) h⟩
  · rename_i x ho
    cases hk : (e.ev x).known with
    | false => rw [hk] at h; exact h.elim
    | true =>
      rw [hk] at h
      exact ⟨fun c hc => (by rw [ho] at hc; cases hc), .value (by simp only [execOp, ho, hr.ev hk]; rfl) (hr.put hd fun _ => rfl) h⟩
  · rename_i c x y ho
    split at h
    · rename_i b hb
      have hc : a.eval c = .bool b := by rw [hr.ev (by rw [hb]; rfl)]; unfold Env.ρ; rw [hb]; rfl
      cases b with
      | true =>
        cases hk : (e.ev x).known with
        | false => rw [hk] at h; exact h.elim
        | true =>
          rw [hk] at h
          exact ⟨fun c hc => (by rw [ho] at hc; cases hc), .value (by simp only [execOp, ho, hc, hr.ev hk]; rfl) (hr.put hd fun _ => rfl) h⟩
      | false =>
        cases hk : (e.ev y).known with
        | false => rw [hk] at h; exact h.elim
        | true =>
          rw [hk] at h
          exact ⟨fun c hc => (by rw [ho] at hc; cases hc), .value (by simp only [execOp, ho, hc, hr.ev hk]; rfl) (hr.put hd fun _ => rfl) h⟩
    · exact h.elim
  · rename_i f args ats ho
    cases hk : ((e.ev f).known && args.toList.all fun x => (e.ev x).known) with
    | false => rw [hk] at h; exact h.elim
    | true =>
      rw [hk] at h
      obtain ⟨h1, h2⟩ := Bool.and_eq_true_iff.1 hk
      rw [map_list] at h
      have ha : args.map a.eval = args.map e.ρ := Array.map_congr_left fun x hx => hr.ev (List.all_eq_true.1 h2 x (by simpa using hx))
      have he : execOp a.eval o = callSem (e.ρ f) (args.map e.ρ) := by rw [exec_call ho, hr.ev h1, ha]
      refine ⟨fun c hc => (by rw [ho] at hc; cases hc), ?_⟩
      rcases h with ⟨g, as, hrun, hc⟩ | ⟨v, w', hrun, hv⟩ | ⟨hrd, l, fn, tmps, assign, body, hrun, hc⟩
      · exact .enter (by rw [he]; exact hrun) (fun v => hr.put hd fun _ => rfl) hc
      · exact .value (by rw [he]; exact hrun) (hr.put hd fun _ => rfl) hv
      · exact .round hrd (by rw [he]; exact hrun) (fun v => hr.put hd fun _ => rfl) hc
  · rename_i op hmove hassign hpick hcall
    cases hk : (knows e o.op && notSelect o.op) with
    | false => rw [hk] at h; exact h.elim
    | true =>
      rw [hk] at h
      obtain ⟨h1, h2⟩ := Bool.and_eq_true_iff.1 hk
      have hs := exec_same hr h1 h2
      simp only [cond_true] at h
      rcases genE_spec h with ⟨s, v, w', hso, hrun, hv⟩ | ⟨s, w', hso, hrun, hv⟩
      · refine ⟨?_, .value (by rw [hs]; exact exec_val hso hrun) (hr.put hd fun _ => rfl) hv⟩
        intro c hc; rw [hc] at hso; simp [opSem] at hso
      · refine ⟨?_, .skip (by rw [hs]; exact exec_unit hso hrun) (hr.put hd fun hh => by cases hh) hv⟩
        intro c hc; rw [hc] at hso; simp [opSemU] at hso

theorem actE_sound {ro : Option Nat} {n N : Nat} {P : Program} {r : Bool} {o : Oper} {e : Env} {a : Act} {w : World} {K : Env → World → Prop} {next : Act → World → Prop} {Q : Exit → Act → World → Prop}
    (hr : Rel N e a) (hd : dstOk N o.dst = true) (hK : ∀ s v w', Rel N (e.putO o.dst s) (a.put o.dst v) → K (e.putO o.dst s) w' → next (a.put o.dst v) w') (h : actE P r o e w K) : o.wpIn (fence ro) n P a w next Q := by
  obtain ⟨hdef, h⟩ := actE_out hr hd h
  cases h with
  | value hrun hrel hk => exact wpIn_value hdef hrun (hK _ _ _ hrel hk)
  | skip hrun hrel hk => exact wpIn_unit hdef hrun (hK _ _ _ hrel hk)
  | enter hrun hrel hc =>
    refine ⟨fun _ _ => fence_fn ro _, ?_⟩
    rw [Oper.semAt_eq _ _ _ hdef, hrun]
    exact ⟨fun hh => (by rw [fence_depth] at hh; cases hh), retK_next hc fun v w' hv => hK _ _ _ (hrel v) hv⟩
  | round _ hrun hrel hc =>
    refine ⟨fun _ _ => fence_fn ro _, ?_⟩
    rw [Oper.semAt_eq _ _ _ hdef, hrun]
    refine ⟨fun hh => (by rw [fence_depth] at hh; cases hh), (round_fence hc).mono fun e w' he => ?_⟩
    cases e with
    | returned v => exact hK _ _ _ (hrel v) he
    | panicked c => exact he.elim
    | outgrown => exact he.elim

/-- The same in the machine's plain form (no round begins). -/
theorem actE_plain {N : Nat} {P : Program} {o : Oper} {e : Env} {a : Act} {w : World} {K : Env → World → Prop} {next : Act → World → Prop} {Q : Exit → Act → World → Prop}
    (hr : Rel N e a) (hd : dstOk N o.dst = true) (hK : ∀ s v w', Rel N (e.putO o.dst s) (a.put o.dst v) → K (e.putO o.dst s) w' → next (a.put o.dst v) w') (h : actE P false o e w K) : o.wp P a w next Q := by
  obtain ⟨hdef, h⟩ := actE_out hr hd h
  unfold Oper.wp
  cases h with
  | value hrun hrel hk => rw [hrun]; exact hK _ _ _ hrel hk
  | skip hrun hrel hk => rw [hrun]; exact hK _ _ _ hrel hk
  | enter hrun hrel hc =>
    rw [hrun]
    refine hc.mono fun e w' he => ?_
    cases e with
    | returned v => exact hK _ _ _ (hrel v) he
    | panicked c => exact he.elim
    | outgrown => exact he.elim
  | round hb => cases hb

theorem getD_bool {xs : Array Value} {t : Nat} {b : Bool} (h : xs.getD t undef = .bool b) : xs[t]? = some (.bool b) := by
  rw [Array.getD_eq_getD_getElem?] at h
  cases hx : xs[t]? with
  | none => rw [hx] at h; cases h
  | some v => rw [hx] at h; exact congrArg some h

theorem wanted_some {ops : Array Oper} {o : Oper} {j : Nat} {want : Bool} {t : Tmp} {a : Act} {b : Bool} (hg : o.guard = some (j, want)) (hj : (ops[j]?).bind (·.dst) = some t) (hb : a.tmps.getD t undef = .bool b) :
    Region.wanted o (yielded ops a.tmps) = (bif b then want else !want) := by
  have hy : yielded ops a.tmps j = some b := by unfold yielded; rw [hj]; simp only [Option.bind_some, getD_bool hb]
  unfold Region.wanted
  rw [hg]
  simp only [hy]
  cases b <;> cases want <;> rfl
theorem wanted_undef {ops : Array Oper} {o : Oper} {j : Nat} {want : Bool} {t : Tmp} {a : Act} (hg : o.guard = some (j, want)) (hj : (ops[j]?).bind (·.dst) = some t) (hb : a.tmps.getD t undef = undef) :
    Region.wanted o (yielded ops a.tmps) = false := by
  have hy : yielded ops a.tmps j = none := by
    unfold yielded
    rw [hj]
    simp only [Option.bind_some]
    rw [Array.getD_eq_getD_getElem?] at hb
    cases hx : a.tmps[t]? with
    | none => rfl
    | some v =>
      rw [hx] at hb
      simp only [Option.getD_some] at hb
      subst hb
      rfl
  unfold Region.wanted
  rw [hg]
  simp only [hy]
  cases want <;> rfl
theorem wanted_none {ops : Array Oper} {o : Oper} {a : Act} (hg : o.guard = none) : Region.wanted o (yielded ops a.tmps) = true := by
  unfold Region.wanted; rw [hg]

/-- One step, in whatever form the machine asks it: 'D' where the operation is wanted, 'K' behind it where it is not. -/
theorem stepE_sound {N : Nat} {P : Program} {r : Bool} {ops : Array Oper} {o : Oper} {e : Env} {a : Act} {w : World} {K : Env → World → Prop} {next : Act → World → Prop} {D : Prop}
    (hr : Rel N e a) (hK : ∀ s v w', Rel N (e.putO o.dst s) (a.put o.dst v) → K (e.putO o.dst s) w' → next (a.put o.dst v) w')
    (hK' : ∀ t b, Rel N (e.put t (.lit b)) a → ∀ s v w', Rel N ((e.put t (.lit b)).putO o.dst s) (a.put o.dst v) → K ((e.put t (.lit b)).putO o.dst s) w' → next (a.put o.dst v) w')
    (hD : ∀ e', Rel N e' a → dstOk N o.dst = true → (∀ s v w', Rel N (e'.putO o.dst s) (a.put o.dst v) → K (e'.putO o.dst s) w' → next (a.put o.dst v) w') → actE P r o e' w K → D)
    (h : stepE P r N ops o e w K) : (Region.wanted o (yielded ops a.tmps) = true ∧ D) ∨ (Region.wanted o (yielded ops a.tmps) = false ∧ next (a.put o.dst undef) w) := by
  have doIt : ∀ e', Rel N e' a → (∀ s v w', Rel N (e'.putO o.dst s) (a.put o.dst v) → K (e'.putO o.dst s) w' → next (a.put o.dst v) w') → doE P r N o e' w K → D := by
    intro e' hr' hk hh
    unfold doE at hh
    cases hd : dstOk N o.dst with
    | false => rw [hd] at hh; exact hh.elim
    | true => rw [hd] at hh; exact hD e' hr' hd hk hh
  have skipIt : ∀ e', Rel N e' a → (∀ s v w', Rel N (e'.putO o.dst s) (a.put o.dst v) → K (e'.putO o.dst s) w' → next (a.put o.dst v) w') → skipE N o e' w K → next (a.put o.dst undef) w := by
    intro e' hr' hk hh
    unfold skipE at hh
    cases hd : dstOk N o.dst with
    | false => rw [hd] at hh; exact hh.elim
    | true => rw [hd] at hh; exact hk .undf _ _ (hr'.put hd fun _ => rfl) hh
  unfold stepE at h
  simp only [getOp_eq] at h
  split at h
  · rename_i hg
    exact .inl ⟨wanted_none hg, doIt e hr hK h⟩
  · rename_i j want hg
    split at h
    · exact h.elim
    · rename_i t ht
      split at h
      · exact h.elim
      · rename_i hb
        have hv : a.tmps.getD t undef = undef := by rw [hr.get t (by rw [hb]; rfl), hb]; rfl
        exact .inr ⟨wanted_undef hg ht hv, skipIt e hr hK h⟩
      · rename_i b hb
        have hv : a.tmps.getD t undef = .bool b := by rw [hr.get t (by rw [hb]; rfl), hb]; rfl
        rw [wanted_some hg ht hv]
        cases hw : (bif b then want else !want) with
        | true => rw [hw] at h; exact .inl ⟨rfl, doIt e hr hK h⟩
        | false => rw [hw] at h; exact .inr ⟨rfl, skipIt e hr hK h⟩
      · rename_i v hv
        obtain ⟨b, rfl, h1, h2⟩ := h
        have hb : a.tmps.getD t undef = .bool b := by rw [hr.get t (by rw [hv]; rfl), hv]; rfl
        rw [wanted_some hg ht hb]
        have hr' := hr.refine hb
        cases b with
        | true =>
          have h1 := h1 rfl
          cases want with
          | true => exact .inl ⟨rfl, doIt _ hr' (hK' t true hr') h1⟩
          | false => exact .inr ⟨rfl, skipIt _ hr' (hK' t true hr') h1⟩
        | false =>
          have h2 := h2 rfl
          cases want with
          | true => exact .inr ⟨rfl, skipIt _ hr' (hK' t false hr') h2⟩
          | false => exact .inl ⟨rfl, doIt _ hr' (hK' t false hr') h2⟩

/-- The frame outside some slots, and the deferred calls, are as they were. -/
structure Same (M : Nat → Prop) (a a' : Act) : Prop where
  tmps : ∀ m, ¬ M m → a'.tmps.getD m undef = a.tmps.getD m undef
  defers : a'.defers = a.defers
theorem Same.refl (M : Nat → Prop) (a : Act) : Same M a a := ⟨fun _ _ => rfl, rfl⟩
theorem Same.trans {M : Nat → Prop} {a b c : Act} (h : Same M a b) (k : Same M b c) : Same M a c :=
  ⟨fun m hm => (k.tmps m hm).trans (h.tmps m hm), k.defers.trans h.defers⟩
theorem Same.mono {M M' : Nat → Prop} {a b : Act} (h : Same M a b) (hm : ∀ m, M m → M' m) : Same M' a b := ⟨fun m hn => h.tmps m fun x => hn (hm m x), h.defers⟩
theorem Same.put {M : Nat → Prop} (a : Act) {d : Option Tmp} (hd : ∀ n, d = some n → M n) (v : Value) : Same M a (a.put d v) := by
  cases d with
  | none => exact .refl _ _
  | some n => exact ⟨fun m hm => getD_set_ne (fun e => hm (by rw [e]; exact hd n rfl)) v, rfl⟩

theorem opsE_sound {ro : Option Nat} {n N : Nat} {P : Program} {r : Bool} {ops : Array Oper} {Q : Exit → Act → World → Prop} {K : Env → World → Prop} {M : Nat → Prop} : ∀ (l : List Oper) (e : Env) (a : Act) (w : World),
    (∀ o ∈ l, ∀ n, o.dst = some n → M n) → Rel N e a → (∀ e' a' w', Rel N e' a' → Same M a a' → K e' w' → Q .normal a' w') → opsE P r N ops l e w K → wpListIn (fence ro) n P ops Q l a w := by
  intro l
  induction l with
  | nil => intro e a w _ hr hK h; exact hK e a w hr (.refl _ _) h
  | cons o rest ih =>
    intro e a w hM hr hK h
    have hMo := hM o (by simp)
    have hMr : ∀ o ∈ rest, ∀ n, o.dst = some n → M n := fun o' ho' => hM o' (by simp [ho'])
    have go : ∀ (e' : Env) (v : Value) (w' : World), Rel N e' (a.put o.dst v) → opsE P r N ops rest e' w' K → wpListIn (fence ro) n P ops Q rest (a.put o.dst v) w' :=
      fun e' v w' hr' hh => ih e' _ w' hMr hr' (fun e'' a'' w'' hr'' hs hk => hK e'' a'' w'' hr'' ((Same.put a hMo v).trans hs) hk) hh
    rcases stepE_sound (D := o.wpIn (fence ro) n P a w (wpListIn (fence ro) n P ops Q rest) Q) hr (fun s v w' hr' hh => go _ v w' hr' hh) (fun t b _ s v w' hr' hh => go _ v w' hr' hh)
      (fun e' hr' hd hk hh => actE_sound hr' hd hk hh) h with ⟨hw, hD⟩ | ⟨hw, hn⟩
    · unfold wpListIn; rw [if_pos hw]; exact hD
    · unfold wpListIn; rw [if_neg (by rw [hw]; simp)]; exact ⟨fun _ _ => fence_fn ro _, hn⟩

/-! ### A region that draws its order -/

def kindAt (P : Program) (ops : Array Oper) (i : Nat) : Kind := match getOp ops i with | some o => kindOf P o.op | none => .writer
def waitsFor (o : Oper) (i : Nat) : Bool := o.after.any fun e => Region.binds .any e && e.on == i
/-- Behind operation j a reader may still come: what the readers lean on must hold there. -/
def keepS (P : Program) (ops : Array Oper) (j : Nat) : Bool :=
  match getOp ops j with
  | none => false
  | some o => !decide (kindOf P o.op = .writer) || (List.range ops.size).any fun i => decide (kindAt P ops i = .reader) && !waitsFor o i

/-! ### Which operations have come up: a number's bits -/

def bitOr (l : List Nat) : Nat := l.foldr (fun k m => Nat.lor m (2 ^ k)) 0
theorem testBit_bitOr (l : List Nat) (k : Nat) : (bitOr l).testBit k = decide (k ∈ l) := by
  induction l with
  | nil => simp [bitOr]
  | cons x r ih =>
    show (bitOr r ||| 2 ^ x).testBit k = _
    rw [Nat.testBit_or, ih, Nat.testBit_two_pow]
    by_cases h : x = k
    · subst h; simp
    · have h' : k ≠ x := Ne.symm h
      simp [h, h']
def subM (a m : Nat) : Bool := Nat.beq (Nat.land a m) a
theorem subM_spec {a m : Nat} : subM a m = true ↔ ∀ k, a.testBit k = true → m.testBit k = true := by
  unfold subM
  constructor
  · intro h k hk
    have he : a &&& m = a := Nat.eq_of_beq_eq_true h
    rw [← he, Nat.testBit_and] at hk
    exact (Bool.and_eq_true_iff.1 hk).2
  · intro h
    have he : a &&& m = a := by
      apply Nat.eq_of_testBit_eq
      intro k
      rw [Nat.testBit_and]
      cases hk : a.testBit k with
      | false => rfl
      | true => rw [h k hk]; rfl
    show Nat.beq (a &&& m) a = true
    rw [he]
    exact Nat.beq_refl a
def afterO (o : Oper) : List Nat := (o.after.toList.filter (Region.binds .any)).map (·.on)
def readyM (o : Oper) (m i : Nat) : Bool := !Nat.testBit m i && subM (bitOr (afterO o)) m
def readyGo (m : Nat) : List Oper → Nat → List Nat
  | [], _ => []
  | o :: r, i => bif readyM o m i then i :: readyGo m r (i + 1) else readyGo m r (i + 1)
def readyL (ops : Array Oper) (m : Nat) : List Nat := readyGo m ops.toList 0
theorem readyGo_eq (m : Nat) : ∀ (l : List Oper) (i : Nat), readyGo m l i = (List.range' i l.length).filter fun j => ((l[j - i]?).map fun o => readyM o m j).getD false
  | [], _ => rfl
  | o :: r, i => by
    have ht : (List.range' (i + 1) r.length).filter (fun j => (((o :: r)[j - i]?).map fun o => readyM o m j).getD false) = (List.range' (i + 1) r.length).filter fun j => ((r[j - (i + 1)]?).map fun o => readyM o m j).getD false := by
      apply List.filter_congr
      intro j hj
      obtain ⟨k, hk, rfl⟩ := List.mem_range'.1 hj
      rw [show i + 1 + 1 * k - i = (i + 1 + 1 * k - (i + 1)) + 1 from by omega]
      rfl
    unfold readyGo
    rw [readyGo_eq m r (i + 1), List.length_cons, List.range'_succ, List.filter_cons, ht]
    cases hb : readyM o m i <;> simp [hb]
def confGo (oi : Oper) (ops : Array Oper) (i : Nat) : List Oper → Nat → List Nat
  | [], _ => []
  | o :: r, j => bif !(Nat.beq j i) && !(waitsFor o i || oi.apart ops o) then j :: confGo oi ops i r (j + 1) else confGo oi ops i r (j + 1)
theorem confGo_mem (oi : Oper) (ops : Array Oper) (i : Nat) : ∀ (l : List Oper) (j k : Nat) (o : Oper), l[k]? = some o → j + k ≠ i → (waitsFor o i || oi.apart ops o) = false → j + k ∈ confGo oi ops i l j
  | [], _, _, _, h, _, _ => by simp at h
  | x :: r, j, 0, o, h, hne, hw => by
    simp only [List.getElem?_cons_zero, Option.some.injEq] at h
    subst h
    unfold confGo
    have hb : Nat.beq j i = false := by
      cases hbb : Nat.beq j i with
      | false => rfl
      | true => exact absurd (Nat.eq_of_beq_eq_true hbb) (by simpa using hne)
    rw [hb, hw]
    simp
  | x :: r, j, k + 1, o, h, hne, hw => by
    have := confGo_mem oi ops i r (j + 1) k o (by simpa using h) (by omega) hw
    rw [show j + (k + 1) = j + 1 + k from by omega]
    unfold confGo
    cases (!(Nat.beq j i) && !(waitsFor x i || oi.apart ops x))
    · exact this
    · exact List.mem_cons_of_mem _ this
def confL (ops : Array Oper) (i : Nat) : List Nat := match getOp ops i with
  | none => []
  | some oi => confGo oi ops i ops.toList 0
def freeM (ops : Array Oper) (m i : Nat) : Bool := subM (bitOr (confL ops i)) m

structure Bits (n m : Nat) (listed : Array Bool) : Prop where
  size : listed.size = n
  bit : ∀ i, listed.getD i false = m.testBit i

theorem Bits.getT {n m : Nat} {listed : Array Bool} (h : Bits n m listed) {i : Nat} (hi : i < n) : listed.getD i true = m.testBit i := by
  rw [← h.bit i]
  have hi' : i < listed.size := by rw [h.size]; exact hi
  simp [Array.getD_eq_getD_getElem?, hi']
theorem Bits.set {n m : Nat} {listed : Array Bool} (h : Bits n m listed) {i : Nat} (hi : i < n) : Bits n (Nat.lor m (2 ^ i)) (listed.setIfInBounds i true) := by
  have hi' : i < listed.size := by rw [h.size]; exact hi
  refine ⟨by simp [h.size], fun j => ?_⟩
  show _ = (m ||| 2 ^ i).testBit j
  rw [Nat.testBit_or, Nat.testBit_two_pow, ← h.bit j]
  by_cases hij : i = j
  · subst hij; simp [Array.getD_eq_getD_getElem?, hi']
  · simp [Array.getD_eq_getD_getElem?, Array.getElem?_setIfInBounds_ne hij, hij]
theorem Bits.start (n : Nat) : Bits n 0 (Array.replicate n false) := ⟨by simp, fun i => by
  rw [Nat.zero_testBit, Array.getD_eq_getD_getElem?]
  by_cases h : i < n <;> simp [h]⟩

theorem readyL_eq {ops : Array Oper} {m : Nat} {listed : Array Bool} (h : Bits ops.size m listed) : readyL ops m = Region.ready .any ops listed := by
  unfold readyL Region.ready
  rw [readyGo_eq, Array.length_toList, ← List.range_eq_range']
  apply List.filter_congr
  intro i hi
  have hi := List.mem_range.1 hi
  rw [h.getT hi, Nat.sub_zero]
  have ho : ops[i]? = some ops[i] := by simp [hi]
  rw [Array.getElem?_toList, ho, Option.map_some, Option.getD_some, Option.map_some, Option.getD_some]
  unfold readyM
  congr 1
  rw [Bool.eq_iff_iff, subM_spec]
  unfold afterO
  constructor
  · intro hs
    rw [Array.all_eq_true]
    intro k hk
    cases hb : Region.binds .any ops[i].after[k] with
    | false => simp
    | true =>
      simp only [Bool.not_true, Bool.false_or]
      rw [h.bit]
      exact hs _ (by rw [testBit_bitOr]; exact decide_eq_true (List.mem_map.2 ⟨ops[i].after[k], List.mem_filter.2 ⟨by simp, hb⟩, rfl⟩))
  · intro ha k hk
    rw [testBit_bitOr, decide_eq_true_eq] at hk
    obtain ⟨e, he, rfl⟩ := List.mem_map.1 hk
    obtain ⟨he1, he2⟩ := List.mem_filter.1 he
    rw [← h.bit]
    obtain ⟨j, hj, hje⟩ := List.getElem_of_mem he1
    have := Array.all_eq_true.1 ha j (by simpa using hj)
    have hje' : ops[i].after[j]'(by simpa using hj) = e := by rw [← hje]; simp
    rw [hje', he2] at this
    simpa using this

theorem freeM_spec {ops : Array Oper} {m i : Nat} {listed : Array Bool} (h : Bits ops.size m listed) {oi : Oper} (ho : ops[i]? = some oi) (hf : freeM ops m i = true) : Region.free .any ops listed i = true := by
  unfold Region.free
  rw [ho]
  refine List.all_eq_true.2 fun j hj => ?_
  have hj := List.mem_range.1 hj
  have hoj : ops[j]? = some ops[j] := by simp [hj]
  by_cases hji : j = i
  · simp [hji]
  · cases hb : listed.getD j true with
    | true => simp
    | false =>
      rw [h.getT hj] at hb
      rw [hoj]
      simp only [beq_eq_false_iff_ne.2 hji, Bool.false_or]
      cases hw : (waitsFor ops[j] i || oi.apart ops ops[j]) with
      | true => exact hw
      | false =>
        have hin : j ∈ confL ops i := by
          unfold confL
          rw [getOp_eq, ho]
          have := confGo_mem oi ops i ops.toList 0 j ops[j] (by rw [Array.getElem?_toList]; exact hoj) (by omega) hw
          rwa [Nat.zero_add] at this
        have := subM_spec.1 hf j (by rw [testBit_bitOr]; exact decide_eq_true hin)
        rw [hb] at this
        cases this

section draws
variable {P : Program} {ops : Array Oper} {Q : Exit → Act → World → Prop} {St : World → Prop}

/-- Whatever order is picked; as long as a reader may still come, St holds. -/
def anyS (P : Program) (ops : Array Oper) (Q : Exit → Act → World → Prop) (St : World → Prop) : Bool → Nat → Array Bool → Act → World → Prop
  | _, 0, listed, a, w => Region.ready .any ops listed = [] ∧ Q .normal a w
  | kn, fuel + 1, listed, a, w =>
    (Region.ready .any ops listed = [] → Q .normal a w) ∧
    ∀ i ∈ Region.ready .any ops listed, wpOp P ops Q i (fun a' w' => ((kn && keepS P ops i) = true → St w') ∧ anyS P ops Q St (kn && keepS P ops i) fuel (listed.setIfInBounds i true) a' w') a w

theorem any_of_anyS : ∀ (kn : Bool) (fuel : Nat) (listed : Array Bool) (a : Act) (w : World), anyS P ops Q St kn fuel listed a w → wpAny P .any ops Q fuel listed a w
  | _, 0, _, _, _, h => h
  | _, fuel + 1, _, _, _, h => ⟨h.1, fun i hi => wpOp_mono (fun a' w' h' => any_of_anyS _ fuel _ a' w' h'.2) (h.2 i hi)⟩

theorem ready_spec {listed : Array Bool} {i : Nat} (h : i ∈ Region.ready .any ops listed) :
    listed.getD i true = false ∧ ∃ o, ops[i]? = some o ∧ ∀ e ∈ o.after, Region.binds .any e = true → listed.getD e.on false = true := mem_ready.1 h

theorem not_waits {listed : Array Bool} {i j : Nat} {oj : Oper} (hi : i ∈ Region.ready .any ops listed) (hj : j ∈ Region.ready .any ops listed) (ho : ops[j]? = some oj) :
    ∀ e ∈ oj.after, Region.binds .any e = true → e.on ≠ i := by
  intro e he hb heq
  obtain ⟨_, o, ho', hall⟩ := ready_spec hj
  rw [ho] at ho'
  obtain rfl := Option.some.inj ho'
  have h1 := hall e he hb
  have h0 := (ready_spec hi).1
  rw [heq] at h1
  simp only [Array.getD_eq_getD_getElem?] at h0 h1
  cases hx : listed[i]? with
  | none => rw [hx] at h0; cases h0
  | some b => rw [hx] at h0 h1; simp only [Option.getD_some] at h0 h1; rw [h0] at h1; cases h1

theorem keeps_of_reader {i j : Nat} {oj : Oper} (ho : ops[j]? = some oj) (hk : kindAt P ops i = .reader) (hi : i < ops.size)
    (hno : ∀ e ∈ oj.after, Region.binds .any e = true → e.on ≠ i) : keepS P ops j = true := by
  unfold keepS
  rw [getOp_eq, ho]
  refine Bool.or_eq_true_iff.2 (.inr (List.any_eq_true.2 ⟨i, List.mem_range.2 hi, ?_⟩))
  rw [hk, decide_eq_true rfl, Bool.true_and, Bool.not_eq_true']
  unfold waitsFor
  rw [Array.any_eq_false]
  intro k hk' h
  simp only [Bool.and_eq_true, beq_iff_eq] at h
  exact hno _ (Array.getElem_mem hk') h.1 h.2

/-- One that yields in every world that meets St may be taken first. -/
theorem anyS_first {i : Nat} {oi : Oper} {v : Value} (hi : ops[i]? = some oi) (hsel : ∀ (j : Nat) (o : Oper) cs b, ops[j]? = some o → o.op ≠ .select cs b)
    (hQ : ∀ c a w, Q (.panic c) (a.put oi.dst v) w → Q (.panic c) a w) (rd : Bool) (hrd : rd = true → kindAt P ops i = .reader) (hki : keepS P ops i = true) :
    ∀ (fuel : Nat) (kn : Bool) (listed : Array Bool) (a : Act) (w : World),
      (∀ j oj, ops[j]? = some oj → j ≠ i → listed.getD j true = false → (∀ e ∈ oj.after, Region.binds .any e = true → e.on ≠ i) → oi.apart ops oj = true) →
      i ∈ Region.ready .any ops listed → YieldsIf P ops (fun w => rd = true → St w) oi v a → (kn = true → St w) → (rd = true → kn = true) →
      anyS P ops Q St kn fuel (listed.setIfInBounds i true) (a.put oi.dst v) w → anyS P ops Q St kn (fuel + 1) listed a w := by
  intro fuel
  induction fuel with
  | zero =>
    intro kn listed a w _ hr hy hS hkn H
    refine ⟨fun h => (by rw [h] at hr; cases hr), fun j hj => ?_⟩
    by_cases hji : j = i
    · subst hji
      exact hy.wpOp hi (fun h => hS (hkn h)) (by rw [hki, Bool.and_true]; exact ⟨hS, H⟩)
    · have hm := ready_mono hj hji
      rw [H.1] at hm
      cases hm
  | succ fuel ih =>
    intro kn listed a w hfree hr hy hS hkn H
    refine ⟨fun h => (by rw [h] at hr; cases hr), fun j hj => ?_⟩
    by_cases hji : j = i
    · subst hji
      exact hy.wpOp hi (fun h => hS (hkn h)) (by rw [hki, Bool.and_true]; exact ⟨hS, H⟩)
    · obtain ⟨hjun, oj, hoj, _⟩ := ready_spec hj
      have hnot := not_waits hr hj hoj
      have h2 := wpOp_putIf hoj (hfree j oj hoj hji hjun hnot) (fun cs b => hsel i oi cs b hi) (fun cs b => hsel j oj cs b hoj) hQ hy (H.2 j (ready_mono hj hji))
      refine wpOp_mono (fun a' w' h3 => ⟨h3.2.1, ih _ (listed.setIfInBounds j true) a' w' ?_ (ready_mono hr (Ne.symm hji)) h3.1 h3.2.1 (fun h => ?_) ?_⟩) h2
      · intro k ok hk hki' hun hno
        refine hfree k ok hk hki' ?_ hno
        by_cases hjk : j = k
        · subst hjk; exact hjun
        · rw [Go.getD_set_ne true hjk] at hun; exact hun
      · rw [hkn h, keeps_of_reader hoj (hrd h) (Array.getElem?_eq_some_iff.1 hi).1 hnot]; rfl
      · rw [Array.setIfInBounds_comm _ _ hji]
        exact h3.2.2

end draws

structure readP (St : World → Prop) (f : World → Option Value) (K : Value → Prop) : Prop where
  out : ∃ v, (∀ w, St w → f w = some v) ∧ K v

/-- What an operation's guard says: 'none': not known. -/
inductive Says where
  | yes
  | no
  | unk
  | ask (t : Tmp) (v : Value)
def says (ops : Array Oper) (o : Oper) (e : Env) : Says :=
  match o.guard with
  | none => .yes
  | some (j, want) =>
    match (getOp ops j).bind (·.dst) with
    | none => .unk
    | some t =>
      match e.get t with
      | .unk => .unk
      | .undf => .no
      | .lit b => bif (bif b then want else !want) then .yes else .no
      | .val v => .ask t v

/-- Taken first: an operation that is not wanted, or yields. -/
def takeE (P : Program) (N : Nat) (ops : Array Oper) (St : World → Prop) (o : Oper) (e : Env) (K : Env → Prop) : Prop :=
  bif dstOk N o.dst then
    match says ops o e with
    | .no => K (e.putO o.dst .undf)
    | .yes => match o.op with
      | .move x | .assign x => bif (e.ev x).known then K (e.putO o.dst (e.ev x)) else False
      | .pick c x y => match e.ev c with
        | .lit b => bif b then (bif (e.ev x).known then K (e.putO o.dst (e.ev x)) else False) else (bif (e.ev y).known then K (e.putO o.dst (e.ev y)) else False)
        | _ => False
      | op => bif knows e op && notSelect op then
          match kindOf P op with
          | .pure => match opSem P e.ρ o.type op with
            | some s => pureP P s (fun v => K (e.putO o.dst (.val v)))
            | none => False
          | .reader => readP St (rdF P e.ρ o.type op) (fun v => K (e.putO o.dst (.val v)))
          | .writer => False
        else False
    | _ => False
  else False

def isNo : Says → Bool | .no => true | _ => false
def isYes : Says → Bool | .yes => true | _ => false
def takeable (P : Program) (ops : Array Oper) (kn : Bool) (listed : Nat) (e : Env) (i : Nat) : Bool :=
  match getOp ops i with
  | none => false
  | some o => (isNo (says ops o e) || isYes (says ops o e) && (match kindOf P o.op with | .pure => true | .reader => kn | .writer => false)) && (keepS P ops i && freeM ops listed i)
def asks (ops : Array Oper) (e : Env) (i : Nat) : Option (Tmp × Value) :=
  match getOp ops i with
  | none => none
  | some o => match says ops o e with | .ask t v => some (t, v) | _ => none

def allP (l : List Nat) (p : Nat → Prop) : Prop := match l with | [] => True | [i] => p i | i :: r => p i ∧ allP r p
theorem allP_mem {l : List Nat} {p : Nat → Prop} (h : allP l p) : ∀ i ∈ l, p i := by
  induction l with
  | nil => intro i hi; cases hi
  | cons x r ih =>
    cases r with
    | nil => intro i hi; simp only [List.mem_singleton] at hi; subst hi; exact h
    | cons y r =>
      intro i hi
      rcases List.mem_cons.1 hi with rfl | hi
      · exact h.1
      · exact ih h.2 i hi

def andIf (b : Bool) (p q : Prop) : Prop := bif b then p ∧ q else q

def drawGo (P : Program) (N : Nat) (ops : Array Oper) (St : World → Prop) : Nat → Nat → Bool → Nat → Env → World → (Env → World → Prop) → Prop
  | 0, _, _, _, _, _, _ => False
  | f + 1, m, kn, listed, e, w, K =>
    match readyL ops listed with
    | [] => K e w
    | rd => match rd.findSome? (asks ops e) with
      | some (t, v) => ifV v (drawGo P N ops St f m kn listed (e.put t (.lit true)) w K) (drawGo P N ops St f m kn listed (e.put t (.lit false)) w K)
      | none => match m with
        | 0 => False
        | m + 1 => match rd.find? (takeable P ops kn listed e) with
          | some i => match getOp ops i with
            | some o => takeE P N ops St o e (fun e' => drawGo P N ops St f m kn (Nat.lor listed (2 ^ i)) e' w K)
            | none => False
          | none => allP rd (fun i => match getOp ops i with
            | some o => stepE P false N ops o e w (fun e' w' => andIf (kn && keepS P ops i) (St w') (drawGo P N ops St f m (kn && keepS P ops i) (Nat.lor listed (2 ^ i)) e' w' K))
            | none => False)

/-- Behind the draw. -/
def drewP (w : World) (K : World → Prop) : Prop := K w.drew
def annOf (l : List (Nat × List Nat)) (i : Nat) : Option (List Nat) := match l with | [] => none | (k, v) :: r => bif Nat.beq i k then some v else annOf r i
def drawE (P : Program) (N : Nat) (ops : Array Oper) (e : Env) (w : World) (K : Env → World → Prop) : Prop :=
  ∃ St : World → Prop, St w.drew ∧ drewP w fun w => bif Region.noSelect ops && P.follows .mixedOrders then drawGo P N ops St (3 * ops.size + 3) ops.size true 0 e w K else False

section drawsound
variable {P : Program} {N : Nat} {ops : Array Oper} {St : World → Prop}

theorem says_yes {o : Oper} {e : Env} {a : Act} (hr : Rel N e a) (h : says ops o e = .yes) : Region.wanted o (yielded ops a.tmps) = true := by
  unfold says at h
  simp only [getOp_eq] at h
  split at h
  · rename_i hg; exact wanted_none hg
  · rename_i j want hg
    split at h
    · cases h
    · rename_i t ht
      split at h
      · cases h
      · cases h
      · rename_i b hb
        have hv : a.tmps.getD t undef = .bool b := by rw [hr.get t (by rw [hb]; rfl), hb]; rfl
        rw [wanted_some hg ht hv]
        cases hw : (bif b then want else !want) with
        | true => rfl
        | false => rw [hw] at h; cases h
      · cases h
theorem says_no {o : Oper} {e : Env} {a : Act} (hr : Rel N e a) (h : says ops o e = .no) : Region.wanted o (yielded ops a.tmps) = false := by
  unfold says at h
  simp only [getOp_eq] at h
  split at h
  · cases h
  · rename_i j want hg
    split at h
    · cases h
    · rename_i t ht
      split at h
      · cases h
      · rename_i hb
        exact wanted_undef hg ht (by rw [hr.get t (by rw [hb]; rfl), hb]; rfl)
      · rename_i b hb
        have hv : a.tmps.getD t undef = .bool b := by rw [hr.get t (by rw [hb]; rfl), hb]; rfl
        rw [wanted_some hg ht hv]
        cases hw : (bif b then want else !want) with
        | true => rw [hw] at h; cases h
        | false => rfl
      · cases h
theorem says_ask {o : Oper} {e : Env} {t : Tmp} {v : Value} (h : says ops o e = .ask t v) : e.get t = .val v := by
  unfold says at h
  simp only [getOp_eq] at h
  split at h
  · cases h
  · split at h
    · cases h
    · split at h
      · cases h
      · cases h
      · rename_i b hb
        cases hw : (bif b then _ else _ : Bool) <;> rw [hw] at h <;> cases h
      · rename_i v' hv
        injection h with h1 h2
        subst h1; subst h2; exact hv

theorem asks_spec {e : Env} {i : Nat} {t : Tmp} {v : Value} (h : asks ops e i = some (t, v)) : e.get t = .val v := by
  unfold asks at h
  rw [getOp_eq] at h
  split at h
  · cases h
  · split at h
    · rename_i t' v' hs
      injection h with h
      injection h with h1 h2
      subst h1; subst h2
      exact says_ask hs
    · cases h

def isRd (P : Program) (ops : Array Oper) (o : Oper) (e : Env) : Bool := isYes (says ops o e) && decide (kindOf P o.op = .reader)

theorem takeE_spec {o : Oper} {e : Env} {a : Act} {K : Env → Prop} (hr : Rel N e a) (h : takeE P N ops St o e K) :
    ∃ s v, Rel N (e.putO o.dst s) (a.put o.dst v) ∧ YieldsIf P ops (fun w => isRd P ops o e = true → St w) o v a ∧ K (e.putO o.dst s) := by
  unfold takeE at h
  cases hd : dstOk N o.dst with
  | false => rw [hd] at h; exact h.elim
  | true =>
    rw [hd, cond_true] at h
    split at h
    · rename_i hs
      exact ⟨.undf, undef, hr.put hd (fun _ => rfl), .inr ⟨says_no hr hs, rfl⟩, h⟩
    · rename_i hs
      have hw := says_yes hr hs
      split at h
      · rename_i x ho
        cases hk : (e.ev x).known with
        | false => rw [hk] at h; exact h.elim
        | true =>
          rw [hk] at h
          exact ⟨_, _, hr.put hd fun _ => rfl, .inl ⟨hw, fun w _ => by simp only [execOp, ho, hr.ev hk]; rfl⟩, h⟩
      · rename_i x ho
        cases hk : (e.ev x).known with
        | false => rw [hk] at h; exact h.elim
        | true =>
          rw [hk] at h
          exact ⟨_, _, hr.put hd fun _ => rfl, .inl ⟨hw, fun w _ => by simp only [execOp, ho, hr.ev hk]; rfl⟩, h⟩
      · rename_i c x y ho
        split at h
        · rename_i b hb
          have hc : a.eval c = .bool b := by rw [hr.ev (by rw [hb]; rfl)]; unfold Env.ρ; rw [hb]; rfl
          cases b with
          | true =>
            cases hk : (e.ev x).known with
            | false => rw [hk] at h; exact h.elim
            | true =>
              rw [hk] at h
              exact ⟨_, _, hr.put hd fun _ => rfl, .inl ⟨hw, fun w _ => by simp only [execOp, ho, hc, hr.ev hk]; rfl⟩, h⟩
          | false =>
            cases hk : (e.ev y).known with
            | false => rw [hk] at h; exact h.elim
            | true =>
              rw [hk] at h
              exact ⟨_, _, hr.put hd fun _ => rfl, .inl ⟨hw, fun w _ => by simp only [execOp, ho, hc, hr.ev hk]; rfl⟩, h⟩
        · exact h.elim
      · rename_i op hmove hassign hpick
        cases hk : (knows e o.op && notSelect o.op) with
        | false => rw [hk] at h; exact h.elim
        | true =>
          rw [hk] at h
          obtain ⟨h1, h2⟩ := Bool.and_eq_true_iff.1 hk
          have hsame := exec_same hr h1 h2
          simp only [cond_true] at h
          split at h
          · split at h
            · rename_i s hso
              obtain ⟨v, hv, hK⟩ := h
              exact ⟨.val v, v, hr.put hd fun _ => rfl, .inl ⟨hw, fun w _ => by rw [hsame]; exact exec_val hso (hv w)⟩, hK⟩
            · exact h.elim
          · rename_i hkd
            obtain ⟨v, hv, hK⟩ := h
            have hrd : isRd P ops o e = true := by unfold isRd; rw [hs, hkd]; rfl
            refine ⟨.val v, v, hr.put hd fun _ => rfl, .inl ⟨hw, fun w hS => ?_⟩, hK⟩
            obtain ⟨s, hso, hrun⟩ := rdF_run (hv w (hS hrd))
            rw [hsame]
            exact exec_val hso hrun
          · exact h.elim
    · exact h.elim

theorem wpOp_step {i : Nat} {o : Oper} {e : Env} {a : Act} {w : World} {Q : Exit → Act → World → Prop} {K : Env → World → Prop} {next : Act → World → Prop} (ho : ops[i]? = some o) (hr : Rel N e a)
    (hK : ∀ e' v w', Rel N e' (a.put o.dst v) → K e' w' → next (a.put o.dst v) w') (h : stepE P false N ops o e w K) : wpOp P ops Q i next a w := by
  unfold wpOp
  rw [ho]
  rcases stepE_sound (D := o.wp P a w next Q) hr (fun s v w' hr' hh => hK _ v w' hr' hh) (fun t b _ s v w' hr' hh => hK _ v w' hr' hh)
    (fun e' hr' hd hk hh => actE_plain hr' hd hk hh) h with ⟨hw, hD⟩ | ⟨hw, hn⟩
  · simp only [hw, if_true]; exact .inl hD
  · simp only [hw]; exact hn

theorem drawGo_sound {Q : Exit → Act → World → Prop} {K : Env → World → Prop} {M : Nat → Prop} (hsel : Region.noSelect ops = true) (hQ : ∀ c (a : Act) d v w, Q (.panic c) (a.put d v) w → Q (.panic c) a w)
    (hM : ∀ (i : Nat) (o : Oper), ops[i]? = some o → ∀ n, o.dst = some n → M n) :
    ∀ (f m : Nat) (kn : Bool) (bs : Nat) (listed : Array Bool) (e : Env) (a : Act) (w : World), Bits ops.size bs listed → Rel N e a → (kn = true → St w) → (∀ e' a' w', Rel N e' a' → Same M a a' → K e' w' → Q .normal a' w') →
      drawGo P N ops St f m kn bs e w K → anyS P ops Q St kn m listed a w := by
  intro f
  induction f with
  | zero => intro m kn bs listed e a w _ _ _ _ h; exact h.elim
  | succ f ih =>
    intro m kn bs listed e a w hbits hr hS hK h
    unfold drawGo at h
    rw [readyL_eq hbits] at h
    split at h
    · rename_i hrd
      cases m with
      | zero => exact ⟨hrd, hK e a w hr (.refl _ _) h⟩
      | succ m => exact ⟨fun _ => hK e a w hr (.refl _ _) h, fun i hi => by rw [hrd] at hi; cases hi⟩
    · rename_i rd hne
      split at h
      · rename_i t v hask
        obtain ⟨b, rfl, h1, h2⟩ := h
        obtain ⟨i, _, hi⟩ := List.exists_of_findSome?_eq_some hask
        have hb : a.tmps.getD t undef = .bool b := by rw [hr.get t (by rw [asks_spec hi]; rfl), asks_spec hi]; rfl
        have hr' := hr.refine hb
        cases b with
        | true => exact ih m kn bs listed _ a w hbits hr' hS hK (h1 rfl)
        | false => exact ih m kn bs listed _ a w hbits hr' hS hK (h2 rfl)
      · split at h
        · exact h.elim
        · rename_i m
          split at h
          · rename_i i hi
            rw [getOp_eq] at h
            have hmem := List.mem_of_find?_eq_some hi
            have htk := List.find?_some hi
            split at h
            · rename_i o ho
              obtain ⟨s, v, hrel, hy, hk⟩ := takeE_spec hr h
              have hi' : i < ops.size := (Array.getElem?_eq_some_iff.1 ho).1
              have htk' : keepS P ops i = true ∧ Region.free .any ops listed i = true ∧ (isRd P ops o e = true → kn = true) := by
                unfold takeable at htk
                rw [getOp_eq, ho] at htk
                simp only [Bool.and_eq_true] at htk
                refine ⟨htk.2.1, freeM_spec hbits ho htk.2.2, fun hrd => ?_⟩
                unfold isRd at hrd
                simp only [Bool.and_eq_true, decide_eq_true_eq] at hrd
                have h3 := htk.1
                rw [hrd.1, hrd.2] at h3
                cases hs : says ops o e with
                | yes => rw [hs] at h3; simpa [isNo] using h3
                | no => rw [hs] at hrd; cases hrd.1
                | unk => rw [hs] at hrd; cases hrd.1
                | ask t v => rw [hs] at hrd; cases hrd.1
              refine anyS_first (oi := o) (v := v) ho (Region.noSelect_spec hsel) (fun c a w => hQ c a o.dst v w) (isRd P ops o e) ?_ htk'.1 m kn listed a w (Region.free_spec ho htk'.2.1) hmem hy hS htk'.2.2 ?_
              · intro hrd
                unfold isRd at hrd
                simp only [Bool.and_eq_true, decide_eq_true_eq] at hrd
                unfold kindAt
                rw [getOp_eq, ho]
                exact hrd.2
              · exact ih m kn _ _ _ _ w (hbits.set hi') hrel hS (fun e' a' w' hr' hs' hk' => hK e' a' w' hr' ((Same.put a (hM i o ho) v).trans hs') hk') hk
            · exact h.elim
          · refine ⟨fun hh => absurd hh hne, fun i hi => ?_⟩
            have hstep := allP_mem h i hi
            obtain ⟨_, o, ho, _⟩ := ready_spec hi
            rw [getOp_eq, ho] at hstep
            refine wpOp_step ho hr (fun e' v w' hr' hk' => ?_) hstep
            have hs' := Same.put a (hM i o ho) v
            have hi' : i < ops.size := (Array.getElem?_eq_some_iff.1 ho).1
            unfold andIf at hk'
            cases hkn : (kn && keepS P ops i) with
            | true =>
              rw [hkn] at hk'
              exact ⟨fun _ => hk'.1, ih m _ _ _ _ _ w' (hbits.set hi') hr' (fun _ => hk'.1) (fun e'' a'' w'' hr'' hs'' hk'' => hK e'' a'' w'' hr'' (hs'.trans hs'') hk'') hk'.2⟩
            | false =>
              rw [hkn] at hk'
              exact ⟨fun hh => (by cases hh), ih m _ _ _ _ _ w' (hbits.set hi') hr' (fun hh => by cases hh) (fun e'' a'' w'' hr'' hs'' hk'' => hK e'' a'' w'' hr'' (hs'.trans hs'') hk'') hk'⟩

end drawsound
/-! ### Code -/

def nodes : Code → Nat
  | .seq a b => nodes a + nodes b + 1
  | .cond _ x y => nodes x + nodes y + 1
  | .block _ b | .loop b | .scope b => nodes b + 1
  | .rangeFunc _ _ _ b => nodes b + 1
  | _ => 1
def dsts : Code → List Nat
  | .region _ ops _ => ops.toList.filterMap (·.dst)
  | .seq a b => dsts a ++ dsts b
  | .cond _ x y => dsts x ++ dsts y
  | .block _ b | .loop b | .scope b => dsts b
  | _ => []
def noRange : Code → Bool
  | .seq a b => noRange a && noRange b
  | .cond _ x y => noRange x && noRange y
  | .block _ b | .loop b | .scope b => noRange b
  | .rangeFunc .. => false
  | _ => true

def pickKeep : List Nat → List Value → Nat → Option Value
  | [], _, _ => none
  | k :: ks, vs, m => bif Nat.beq m k then some (vs.headD undef) else pickKeep ks vs.tail m
def isIn (l : List Nat) (m : Nat) : Bool := match l with | [] => false | x :: r => bif Nat.beq m x then true else isIn r m
def Env.havoc (e : Env) (mods keep : List Nat) (vs : List Value) : Env :=
  { e with get := fun m => match pickKeep keep vs m with | some v => .val v | none => bif isIn mods m then .unk else e.get m }
def Env.read (e : Env) (keep : List Nat) : List Value := keep.map fun t => (e.get t).v
def Env.has (e : Env) (keep : List Nat) : Bool := keep.all fun t => (e.get t).known

theorem isIn_mem {l : List Nat} {m : Nat} : isIn l m = true ↔ m ∈ l := by
  induction l with
  | nil => simp [isIn]
  | cons x r ih =>
    unfold isIn
    cases hb : Nat.beq m x with
    | true => simp [Nat.eq_of_beq_eq_true hb]
    | false =>
      have hne : m ≠ x := fun h => by subst h; simp at hb
      simp [ih, hne]

theorem pickKeep_read {e : Env} : ∀ {keep : List Nat} {m : Nat} {v : Value}, pickKeep keep (e.read keep) m = some v → m ∈ keep ∧ v = (e.get m).v
  | [], _, _, h => by cases h
  | k :: ks, m, v, h => by
    unfold pickKeep at h
    cases hb : Nat.beq m k with
    | true =>
      rw [hb] at h
      obtain rfl := Nat.eq_of_beq_eq_true hb
      injection h with h
      exact ⟨by simp, h.symm⟩
    | false =>
      rw [hb] at h
      have := pickKeep_read (keep := ks) h
      exact ⟨by simp [this.1], this.2⟩

/-- A frame that came out of code which writes only 'mods', seen with what is kept of them. -/
theorem Rel.havoc {N : Nat} {e e' : Env} {a a' : Act} {mods keep : List Nat} (hr : Rel N e a) (hr' : Rel N e' a') (hs : Same (· ∈ mods) a a') (hk : e'.has keep = true) : Rel N (e.havoc mods keep (e'.read keep)) a' := by
  refine ⟨hr'.size, by rw [hs.defers]; exact hr.defers, fun m hm => ?_⟩
  show _ = (match pickKeep keep (e'.read keep) m with | some v => Slot.val v | none => bif isIn mods m then .unk else e.get m).v
  have hm' : (match pickKeep keep (e'.read keep) m with | some v => Slot.val v | none => bif isIn mods m then .unk else e.get m).known = true := hm
  cases hp : pickKeep keep (e'.read keep) m with
  | some v =>
    obtain ⟨h1, h2⟩ := pickKeep_read hp
    rw [hr'.get m (List.all_eq_true.1 hk m h1)]
    exact h2.symm
  | none =>
    rw [hp] at hm'
    cases hb : isIn mods m with
    | true => rw [hb] at hm'; cases hm'
    | false =>
      rw [hb] at hm'
      rw [hs.tmps m (fun h => by rw [isIn_mem.2 h] at hb; cases hb)]
      exact hr.get m hm'

/-! ### A range over a function -/

/-- Below block number B the heap is the same. -/
abbrev SameBelow (B : Nat) (W W' : World) : Prop := RowKit.Below B W W'
/-- What lay from block number B on lies as it lay. -/
def KeepFrom (B : Nat) (W W' : World) : Prop := W.heap.size ≤ W'.heap.size ∧ ∀ b, B ≤ b → b < W.heap.size → W'.heap[b]? = W.heap[b]?
def YieldC (P : Program) (l : Nat) (args : List Value) (W : World) (K : Value → World → Prop) : Prop :=
  ∃ fn tmps assign body, (Instr.yield l args.toArray).run P W = .ok (.round l fn tmps assign body) W ∧ RoundIn Fence.wide 0 P l fn tmps assign body W (retK K)
/-- AN ITERATOR: called with whatever loop body it hands over, one behind the other, just xs. 'Mem': what it reads. -/
def IterC (P : Program) (g : Nat) (cap : Array Value) (Mem : World → Prop) (xs : List (List Value)) : Prop :=
  ∀ (l : Nat) (J : Nat → World → Prop) (W : World), (∀ i W1, J i W1 → Mem W1) → (∀ i W1 W2, J i W1 → SameBelow W.heap.size W1 W2 → J i W2) →
    (∀ i x W1, xs[i]? = some x → J i W1 → W.heap.size ≤ W1.heap.size → YieldC P l x W1 (fun v W2 => v = .bool true ∧ J (i + 1) W2 ∧ KeepFrom W.heap.size W1 W2)) →
    J 0 W → Calls P g (#[.func (.yield l) #[] #[]] ++ cap) W (retK fun _ W' => J xs.length W')
structure rangeP (P : Program) (np : Nat) (fv : Value) (w : World) (B : List Value → World → (World → Prop) → Prop) (K : World → Nat → Prop) : Prop where
  out : ∃ (g : Nat) (cap : Array Value) (Mem : World → Prop) (J : Nat → World → Prop) (xs : List (List Value)),
    fv = .func (.func g) #[] cap ∧ (∀ as w, (callFunc g as).run P w = .ok (.enter g as) w) ∧ IterC P g cap Mem xs ∧ (∀ x ∈ xs, x.length = np) ∧
    (∀ i W, J i W → Mem W) ∧ J 0 w ∧ (∀ i W W', J i W → SameBelow w.heap.size W W' → J i W') ∧
    (∀ i x W, xs[i]? = some x → J i W → w.heap.size ≤ W.heap.size → B x W (fun W' => J (i + 1) W' ∧ KeepFrom w.heap.size W W')) ∧
    (∀ W D, J xs.length W → w.heap.size ≤ D → D < W.heap.size → W.heap[D]? = some (.deferred (some [])) → K W D)

def nthV : List Value → Nat → Value | vs, 0 => vs.headD undef | vs, n + 1 => nthV vs.tail n
def roundEnv (e : Env) : List Nat → List Value → Env
  | p :: ps, vs => roundEnv (e.put p (.val (nthV vs 0))) ps vs.tail
  | [], _ => e
def assignOps (N : Nat) : List Oper → Env → Option Env
  | [], e => some e
  | o :: r, e => match o.guard, o.op with
    | none, .assign x => bif (e.ev x).known && dstOk N o.dst then assignOps N r (e.putO o.dst (e.ev x)) else none
    | _, _ => none
def assignE (N : Nat) : Code → Env → Option Env
  | .skip, e => some e
  | .seq a b, e => match assignE N a e with | some e' => assignE N b e' | none => none
  | .region _ ops draw, e => bif draw then none else assignOps N ops.toList e
  | _, _ => none

theorem roundEnv_rel {N : Nat} : ∀ (ps : List Nat) (vs : List Value) (e : Env) (a : Act), Rel N e a → (∀ p ∈ ps, p < N) → ps.length = vs.length →
    Rel N (roundEnv e ps vs) { a with tmps := (ps.zip vs).foldl (fun t (p, v) => t.setIfInBounds p v) a.tmps }
  | [], [], e, a, h, _, _ => h
  | p :: ps, v :: vs, e, a, h, hp, hl => by
    have hd : dstOk N (some p) = true := by show Nat.blt p N = true; rw [Nat.blt_eq]; exact hp p (by simp)
    exact roundEnv_rel ps vs (e.put p (.val v)) (a.put (some p) v) (h.put hd fun _ => rfl) (fun q hq => hp q (by simp [hq])) (by simpa using hl)
  | [], _ :: _, _, _, _, _, hl => by simp at hl
  | _ :: _, [], _, _, _, _, hl => by simp at hl

theorem assignOps_sound {N : Nat} {P : Program} {ops : Array Oper} {ro : Option Nat} {n : Nat} {w : World} {Q : Exit → Act → World → Prop} : ∀ (l : List Oper) (e e' : Env) (a : Act), assignOps N l e = some e' → Rel N e a →
    (∀ a', Rel N e' a' → a'.defers = a.defers → Q .normal a' w) → wpListIn (fence ro) n P ops Q l a w
  | [], e, e', a, h, hr, hq => by
    simp only [assignOps, Option.some.injEq] at h
    subst h
    exact hq a hr rfl
  | o :: r, e, e', a, h, hr, hq => by
    unfold assignOps at h
    split at h
    · rename_i x hg ho
      cases hb : (e.ev x).known && dstOk N o.dst with
      | false => rw [hb] at h; cases h
      | true =>
        rw [hb] at h
        obtain ⟨h1, h2⟩ := Bool.and_eq_true_iff.1 hb
        unfold wpListIn
        rw [if_pos (wanted_none hg)]
        refine wpIn_value (by rw [ho]; intro c hc; cases hc) (by simp only [execOp, ho, hr.ev h1]; rfl) ?_
        exact assignOps_sound r _ e' _ h (hr.put h2 fun _ => rfl) (fun a' hr' hd => hq a' hr' (hd.trans (by cases o.dst <;> rfl)))
    · cases h

theorem assignE_sound {N : Nat} {P : Program} {ro : Option Nat} {n : Nat} {w : World} : ∀ (c : Code) (e e' : Env) (a : Act) (Q : Exit → Act → World → Prop), assignE N c e = some e' → Rel N e a →
    (∀ a', Rel N e' a' → Q .normal a' w) → c.wpIn (fence ro) n P Q a w := by
  intro c
  induction c with
  | skip =>
    intro e e' a Q h hr hq
    simp only [assignE, Option.some.injEq] at h
    subst h
    exact wpIn_skip (hq a hr)
  | seq x y ihx ihy =>
    intro e e' a Q h hr hq
    unfold assignE at h
    split at h
    · rename_i e1 h1
      exact wpIn_seq (ihx e e1 a _ h1 hr fun a' hr' => ihy e1 e' a' Q h hr' hq)
    · cases h
  | region id ops draw =>
    intro e e' a Q h hr hq
    unfold assignE at h
    cases draw with
    | true => cases h
    | false => exact wpIn_region_list (assignOps_sound ops.toList e e' a h hr fun a' hr' _ => hq a' hr')
  | _ => intro e e' a Q h hr hq; cases h

abbrev Cont := Env → World → Prop

/-- THE TRANSFORMER. 'inR': in a round of a range over a function. 'ann': at a loop: what is kept of the frame; at a sequence: that its first part's ways meet, and what is kept there. -/
def WPE (P : Program) (N : Nat) (ann : Nat → Option (List Nat)) : Bool → Nat → Code → Env → World → Cont → (Nat → Cont) → Cont → Prop
  | _, _, .skip, e, w, kn, _, _ => kn e w
  | inR, i, .seq x y, e, w, kn, kx, kr =>
    match ann i with
    | none => WPE P N ann inR (i + 1) x e w (fun e' w' => WPE P N ann inR (i + 1 + nodes x) y e' w' kn kx kr) kx kr
    | some keep => bif noRange x then
        joinP (fun J => WPE P N ann inR (i + 1) x e w (fun e' w' => bif e'.has keep then J (e'.read keep) w' else False) kx kr)
          (fun vs w' => WPE P N ann inR (i + 1 + nodes x) y (e.havoc (dsts x) keep vs) w' kn kx kr)
      else False
  | inR, i, .cond c x y, e, w, kn, kx, kr =>
    match e.ev c with
    | .unk => False
    | .undf => False
    | .lit b => bif b then WPE P N ann inR (i + 1) x e w kn kx kr else WPE P N ann inR (i + 1 + nodes x) y e w kn kx kr
    | .val v => match c with
      | .tmp t => ifV v (WPE P N ann inR (i + 1) x (e.put t (.lit true)) w kn kx kr) (WPE P N ann inR (i + 1 + nodes x) y (e.put t (.lit false)) w kn kx kr)
      | _ => False
  | inR, i, .block id b, e, w, kn, kx, kr => WPE P N ann inR (i + 1) b e w kn (fun j e' w' => bif Nat.beq j id then kn e' w' else kx j e' w') kr
  | inR, i, .loop b, e, w, _, kx, kr =>
    match ann i with
    | none => False
    | some keep => bif noRange b && e.has keep then
        loopP (e.read keep) w (fun vs w' next => WPE P N ann inR (i + 1) b (e.havoc (dsts b) keep vs) w' (fun e'' w'' => bif e''.has keep then next (e''.read keep) w'' else False) kx kr)
      else False
  | _, _, .exit id, e, w, _, kx, _ => kx id e w
  | _, _, .ret, e, w, _, _, kr => kr e w
  | inR, _, .region _ ops draw, e, w, kn, _, _ => bif draw then (bif inR then False else drawE P N ops e w kn) else opsE P true N ops ops.toList e w kn
  | inR, i, .rangeFunc f ps assign body, e, w, kn, _, _ => bif !inR && (e.ev f).known && ps.toList.all (fun p => Nat.blt p N) then
      rangeP P ps.size (e.ev f).v w (fun args W next => match assignE N assign (roundEnv { e with ds := [] } ps.toList args) with
        | some e1 => WPE P N ann true (i + 1) body e1 W (fun _ W' => next W') (fun _ _ _ => False) (fun _ _ => False)
        | none => False) (fun W D => kn { e with ds := D :: e.ds } W)
    else False
  | _, _, _, _, _, _, _, _ => False

def inR (ro : Option Nat) : Bool := ro.isSome

theorem loopP_mono {s0 : List Value} {w : World} {B B' : List Value → World → (List Value → World → Prop) → Prop} (h : loopP s0 w B) (hb : ∀ s w X, B s w X → B' s w X) : loopP s0 w B' := by
  obtain ⟨I, μ, h0, hr⟩ := h
  exact ⟨I, μ, h0, fun s w hi => hb _ _ _ (hr s w hi)⟩

theorem putObj_self {W : World} {l : Nat} {o o' : Obj} (h : W.heap[l]? = some o) : (W.putObj l o').heap[l]? = some o' := by
  have hl := (Array.getElem?_eq_some_iff.1 h).1
  simp [World.putObj, hl]
theorem putObj_ne {W : World} {l b : Nat} {o' : Obj} (h : b ≠ l) : (W.putObj l o').heap[b]? = W.heap[b]? := by
  simp [World.putObj, Array.getElem?_setIfInBounds_ne (Ne.symm h)]
theorem putObj_size {W : World} {l : Nat} {o' : Obj} : (W.putObj l o').heap.size = W.heap.size := by simp [World.putObj]
theorem alloc_ne {W : World} {b : Nat} {o : Obj} (h : b < W.heap.size) : (W.alloc o).heap[b]? = W.heap[b]? := by
  show (W.heap.push o)[b]? = _
  rw [Array.getElem?_push, if_neg (by omega)]
theorem alloc_self {W : World} {o : Obj} : (W.alloc o).heap[W.heap.size]? = some o := by
  show (W.heap.push o)[W.heap.size]? = _
  rw [Array.getElem?_push, if_pos rfl]
theorem alloc_size {W : World} {o : Obj} : (W.alloc o).heap.size = W.heap.size + 1 := by
  show (W.heap.push o).size = _
  rw [Array.size_push]

theorem WPE_sound {P : Program} {N : Nat} {ann : Nat → Option (List Nat)} : ∀ (c : Code) (ro : Option Nat) (n : Nat) (i : Nat) (e : Env) (a : Act) (w : World) (kn : Cont) (kx : Nat → Cont) (kr : Cont) (M : Nat → Prop) (Q : Exit → Act → World → Prop),
    (∀ m ∈ dsts c, M m) → Rel N e a →
    (∀ e' a' w', Rel N e' a' → (noRange c = true → Same M a a') → kn e' w' → Q .normal a' w') →
    (∀ id e' a' w', Rel N e' a' → (noRange c = true → Same M a a') → kx id e' w' → Q (.exit id) a' w') →
    (∀ e' a' w', Rel N e' a' → kr e' w' → Q .ret a' w') →
    WPE P N ann (inR ro) i c e w kn kx kr → c.wpIn (fence ro) n P Q a w := by
  intro c
  induction c with
  | skip => intro ro n i e a w kn kx kr M Q hM hr hn hx hret h; exact wpIn_skip (hn e a w hr (fun _ => .refl _ _) h)
  | exit id => intro ro n i e a w kn kx kr M Q hM hr hn hx hret h; exact wpIn_exit (hx id e a w hr (fun _ => .refl _ _) h)
  | ret => intro ro n i e a w kn kx kr M Q hM hr hn hx hret h; exact wpIn_ret (hret e a w hr h)
  | region id ops draw =>
    intro ro n i e a w kn kx kr M Q hM hr hn hx hret h
    have hM' : ∀ o ∈ ops.toList, ∀ n, o.dst = some n → M n := fun o ho n hn => hM n (List.mem_filterMap.2 ⟨o, ho, hn⟩)
    unfold WPE at h
    cases draw with
    | false =>
      simp only [cond_false] at h
      exact wpIn_region_list (opsE_sound ops.toList e a w hM' hr (fun e' a' w' hr' hs hk => hn e' a' w' hr' (fun _ => hs) hk) h)
    | true =>
      simp only [cond_true] at h
      cases ro with
      | some l => exact h.elim
      | none =>
        obtain ⟨St, hSt, h⟩ := h
        unfold drewP at h
        cases hb : (Region.noSelect ops && P.follows .mixedOrders) with
        | false => rw [hb] at h; exact h.elim
        | true =>
          rw [hb] at h
          obtain ⟨h1, h2⟩ := Bool.and_eq_true_iff.1 hb
          refine wpIn_wide.2 (Code.wp_mono (Q := fun ex a' w' => (∃ ch, ex = .panic ch ∧ False) ∨ (ex = .normal ∧ Q .normal a' w')) (fun ex a' w' hq => ?_) (wp_region_any h2 (any_of_anyS true _ _ _ _ (drawGo_sound (M := M) h1 ?_ ?_ _ _ true 0 _ e a _ (Bits.start _) hr (fun _ => hSt) ?_ h))))
          · rcases hq with ⟨_, _, h⟩ | ⟨rfl, hq⟩
            · exact h.elim
            · exact hq
          · intro c a d v w hq
            rcases hq with ⟨_, _, h⟩ | ⟨hh, _⟩
            · exact h.elim
            · cases hh
          · intro i o ho n hn
            exact hM' o (by obtain ⟨hlt, heq⟩ := Array.getElem?_eq_some_iff.1 ho; rw [← heq]; exact Array.getElem_mem_toList hlt) n hn
          · intro e' a' w' hr' hs hk
            exact .inr ⟨rfl, hn e' a' w' hr' (fun _ => hs) hk⟩
  | seq x y ihx ihy =>
    intro ro n i e a w kn kx kr M Q hM hr hn hx hret h
    have hMx : ∀ m ∈ dsts x, M m := fun m hm => hM m (List.mem_append.2 (.inl hm))
    have hMy : ∀ m ∈ dsts y, M m := fun m hm => hM m (List.mem_append.2 (.inr hm))
    have hnx : noRange (x.seq y) = true → noRange x = true ∧ noRange y = true := fun h => Bool.and_eq_true_iff.1 h
    unfold WPE at h
    refine wpIn_seq ?_
    split at h
    · refine ihx ro n (i + 1) e a w _ kx kr M _ hMx hr ?_ ?_ ?_ h
      · intro e' a' w' hr' hs hk
        exact ihy ro n (i + 1 + nodes x) e' a' w' kn kx kr M Q hMy hr' (fun e'' a'' w'' hr'' hs' hk' => hn e'' a'' w'' hr'' (fun hh => (hs (hnx hh).1).trans (hs' (hnx hh).2)) hk')
          (fun id e'' a'' w'' hr'' hs' hk' => hx id e'' a'' w'' hr'' (fun hh => (hs (hnx hh).1).trans (hs' (hnx hh).2)) hk') (fun e'' a'' w'' hr'' hk' => hret e'' a'' w'' hr'' hk') hk
      · intro id e' a' w' hr' hs hk
        exact hx id e' a' w' hr' (fun hh => hs (hnx hh).1) hk
      · intro e' a' w' hr' hk
        exact hret e' a' w' hr' hk
    · rename_i keep _
      cases hnr : noRange x with
      | false => rw [hnr] at h; exact h.elim
      | true =>
        rw [hnr] at h
        obtain ⟨h⟩ := h
        refine ihx ro n (i + 1) e a w _ kx kr (· ∈ dsts x) _ (fun m hm => hm) hr ?_ ?_ ?_ h
        · intro e' a' w' hr' hs hk
          cases hh : e'.has keep with
          | false => rw [hh] at hk; exact hk.elim
          | true =>
            rw [hh] at hk
            have hs0 := hs hnr
            exact ihy ro n (i + 1 + nodes x) _ a' w' kn kx kr M Q hMy (hr.havoc hr' hs0 hh) (fun e'' a'' w'' hr'' hs' hk' => hn e'' a'' w'' hr'' (fun hh => (hs0.mono hMx).trans (hs' (hnx hh).2)) hk')
              (fun id e'' a'' w'' hr'' hs' hk' => hx id e'' a'' w'' hr'' (fun hh => (hs0.mono hMx).trans (hs' (hnx hh).2)) hk') (fun e'' a'' w'' hr'' hk' => hret e'' a'' w'' hr'' hk') hk
        · intro id e' a' w' hr' hs hk
          exact hx id e' a' w' hr' (fun _ => (hs hnr).mono hMx) hk
        · intro e' a' w' hr' hk
          exact hret e' a' w' hr' hk
  | cond c x y ihx ihy =>
    intro ro n i e a w kn kx kr M Q hM hr hn hx hret h
    have hMx : ∀ m ∈ dsts x, M m := fun m hm => hM m (List.mem_append.2 (.inl hm))
    have hMy : ∀ m ∈ dsts y, M m := fun m hm => hM m (List.mem_append.2 (.inr hm))
    have hnx : noRange (.cond c x y) = true → noRange x = true ∧ noRange y = true := fun h => Bool.and_eq_true_iff.1 h
    have goX : ∀ e', Rel N e' a → WPE P N ann (inR ro) (i + 1) x e' w kn kx kr → x.wpIn (fence ro) n P Q a w := fun e' hr' hh =>
      ihx ro n (i + 1) e' a w kn kx kr M Q hMx hr' (fun e'' a'' w'' hr'' hs' hk' => hn e'' a'' w'' hr'' (fun hh => hs' (hnx hh).1) hk') (fun id e'' a'' w'' hr'' hs' hk' => hx id e'' a'' w'' hr'' (fun hh => hs' (hnx hh).1) hk') hret hh
    have goY : ∀ e', Rel N e' a → WPE P N ann (inR ro) (i + 1 + nodes x) y e' w kn kx kr → y.wpIn (fence ro) n P Q a w := fun e' hr' hh =>
      ihy ro n (i + 1 + nodes x) e' a w kn kx kr M Q hMy hr' (fun e'' a'' w'' hr'' hs' hk' => hn e'' a'' w'' hr'' (fun hh => hs' (hnx hh).2) hk') (fun id e'' a'' w'' hr'' hs' hk' => hx id e'' a'' w'' hr'' (fun hh => hs' (hnx hh).2) hk') hret hh
    unfold WPE at h
    split at h
    · exact h.elim
    · exact h.elim
    · rename_i b hb
      have hc : a.eval c = .bool b := by rw [hr.ev (by rw [hb]; rfl)]; unfold Env.ρ; rw [hb]; rfl
      cases b with
      | true => exact wpIn_cond_true hc (goX e hr h)
      | false => exact wpIn_cond_false hc (goY e hr h)
    · rename_i v hv
      split at h
      · rename_i t
        obtain ⟨b, rfl, h1, h2⟩ := h
        have hb : a.tmps.getD t undef = .bool b := by rw [hr.get t (by show (e.get t).known = true; rw [show e.get t = _ from hv]; rfl), show e.get t = _ from hv]; rfl
        cases b with
        | true => exact wpIn_cond_true hb (goX _ (hr.refine hb) (h1 rfl))
        | false => exact wpIn_cond_false hb (goY _ (hr.refine hb) (h2 rfl))
      · exact h.elim
  | block id b ih =>
    intro ro n i e a w kn kx kr M Q hM hr hn hx hret h
    unfold WPE at h
    refine wpIn_block (ih ro n (i + 1) e a w kn _ kr M _ hM hr (fun e' a' w' hr' hs hk => hn e' a' w' hr' hs hk) ?_ (fun e' a' w' hr' hk => hret e' a' w' hr' hk) h)
    intro j e' a' w' hr' hs hk
    show (if j = id then Q .normal a' w' else Q (.exit j) a' w')
    cases hb : Nat.beq j id with
    | true =>
      rw [hb] at hk
      rw [if_pos (Nat.eq_of_beq_eq_true hb)]
      exact hn e' a' w' hr' hs hk
    | false =>
      rw [hb] at hk
      rw [if_neg (fun h => by subst h; simp at hb)]
      exact hx j e' a' w' hr' hs hk
  | loop b ih =>
    intro ro n i e a w kn kx kr M Q hM hr hn hx hret h
    unfold WPE at h
    split at h
    · exact h.elim
    · rename_i keep _
      cases hnr : noRange b && e.has keep with
      | false => rw [hnr] at h; exact h.elim
      | true =>
        rw [hnr] at h
        obtain ⟨hnb, hk0⟩ := Bool.and_eq_true_iff.1 hnr
        obtain ⟨I, μ, h0, hround⟩ := h
        refine wpIn_loop (fun a' w' => ∃ e', Rel N e' a' ∧ Same (· ∈ dsts b) a a' ∧ e'.has keep = true ∧ I (e'.read keep) w') (fun a' w' => μ (keep.map fun t => a'.tmps.getD t undef) w') ⟨e, hr, .refl _ _, hk0, h0⟩ ?_
        rintro a1 w1 ⟨e1, hr1, hs1, hk1, hI1⟩
        have hread : ∀ {e' : Env} {a' : Act}, Rel N e' a' → e'.has keep = true → (keep.map fun t => a'.tmps.getD t undef) = e'.read keep := fun {e' a'} hr' hk' =>
          List.map_congr_left fun t ht => hr'.get t (List.all_eq_true.1 hk' t ht)
        refine ih ro n (i + 1) _ a1 w1 _ kx kr (· ∈ dsts b) _ (fun m hm => hm) (hr.havoc hr1 hs1 hk1) ?_ ?_ ?_ (hround _ _ hI1)
        · intro e' a' w' hr' hs hk
          cases hh : e'.has keep with
          | false => rw [hh] at hk; exact hk.elim
          | true =>
            rw [hh] at hk
            refine ⟨⟨e', hr', hs1.trans (hs hnb), hh, hk.1⟩, ?_⟩
            rw [hread hr' hh, hread hr1 hk1]
            exact hk.2
        · intro id e' a' w' hr' hs hk
          exact hx id e' a' w' hr' (fun _ => (hs1.trans (hs hnb)).mono hM) hk
        · intro e' a' w' hr' hk
          exact hret e' a' w' hr' hk
  | rangeFunc f ps assign body iha ihb =>
    intro ro n i0 e a w kn kx kr M Q hM hr hn hx hret h
    unfold WPE at h
    cases hb : (!inR ro && (e.ev f).known && ps.toList.all fun p => Nat.blt p N) with
    | false => rw [hb] at h; exact h.elim
    | true =>
      rw [hb] at h
      obtain ⟨hb1, hps⟩ := Bool.and_eq_true_iff.1 hb
      obtain ⟨hro, hkf⟩ := Bool.and_eq_true_iff.1 hb1
      have hps' : ∀ p ∈ ps.toList, p < N := fun p hp => of_eq_true (Nat.blt_eq ▸ eq_true (List.all_eq_true.1 hps p hp))
      obtain rfl : ro = none := by cases ro with | none => rfl | some l => simp [inR] at hro
      obtain ⟨g, cap, Mem, J, xs, hfv, hent, hit, hlen, hmem, hJ0, hJst, hround, hdone⟩ := h
      have hef : a.eval f = .func (.func g) #[] cap := by rw [hr.ev hkf]; exact hfv
      refine wpIn_rangeFunc fun fn _ => ?_
      obtain ⟨rec, hrec⟩ : ∃ rec : LoopState → Option Code → Loop, rec = fun st pe => { state := st, pending := pe, fn, tmps := a.tmps, params := ps, assign, body, defers := w.heap.size } := ⟨_, rfl⟩
      obtain ⟨W1, hW1⟩ : ∃ W1, (w.alloc (.deferred (some []))).alloc (.loop (rec .ready none)) = W1 := ⟨_, rfl⟩
      have hs1 : W1.heap.size = w.heap.size + 2 := by rw [← hW1, alloc_size, alloc_size]
      have hL1 : W1.heap[w.heap.size + 1]? = some (.loop (rec .ready none)) := by rw [← hW1, ← alloc_size (W := w) (o := .deferred (some []))]; exact alloc_self
      have hD1 : W1.heap[w.heap.size]? = some (.deferred (some [])) := by rw [← hW1, alloc_ne (by rw [alloc_size]; omega)]; exact alloc_self
      have hB1 : SameBelow w.heap.size w W1 := ⟨by rw [← hW1]; rfl, by rw [← hW1]; rfl, by rw [← hW1]; rfl, by omega, fun b hb => by rw [← hW1, alloc_ne (by rw [alloc_size]; omega), alloc_ne hb]⟩
      refine ⟨w.heap.size + 1, [mark w.heap.size], W1, { target := .fn (.func g) cap, args := #[.func (.yield (w.heap.size + 1)) #[] #[]] }, W1, g, #[.func (.yield (w.heap.size + 1)) #[] #[]] ++ cap, W1, ?_, ?_, fun _ _ => trivial, ?_, fun hh => (by cases hh), ?_⟩
      · rw [show (fence none).round = none from rfl, run_enterLoop_outer, ← hW1, hrec]; rfl
      · have hrc : resolve a.eval (rangeCall f (w.heap.size + 1)) 0 = Deferred.ofValue (a.eval f) #[.func (.yield (w.heap.size + 1)) #[] #[]] := by
          simp only [resolve, List.map_toArray, List.map_cons, List.map_nil, Act.eval]
        rw [hrc, hef]; rfl
      · exact hent _ _
      · refine calls_fence (ro := none) ((hit (w.heap.size + 1) (fun i W => J i W ∧ W.heap[w.heap.size + 1]? = some (.loop (rec .ready none)) ∧ W.heap[w.heap.size]? = some (.deferred (some []))) W1 (fun i W hJ => hmem i W hJ.1) ?_ ?_ ?_).mono ?_)
        · rintro i V V' ⟨h1, h2, h3⟩ hbel
          exact ⟨hJst i V V' h1 (hbel.mono (by omega)), (hbel.block _ (by omega)).trans h2, (hbel.block _ (by omega)).trans h3⟩
        · rintro i x V hx ⟨h1, h2, h3⟩ hVs
          have hxl := hlen x (List.mem_of_getElem? hx)
          have hlt := (Array.getElem?_eq_some_iff.1 h2).1
          obtain ⟨Vb, hVb⟩ : ∃ Vb, V.putObj (w.heap.size + 1) (.loop { rec .ready none with state := .busy }) = Vb := ⟨_, rfl⟩
          have hVbs : Vb.heap.size = V.heap.size := by rw [← hVb]; exact putObj_size
          have hVbl : Vb.heap[w.heap.size + 1]? = some (.loop { rec .ready none with state := .busy }) := by rw [← hVb]; exact putObj_self h2
          have hVbn : ∀ b, b ≠ w.heap.size + 1 → Vb.heap[b]? = V.heap[b]? := fun b hb => by rw [← hVb]; exact putObj_ne hb
          have hJb : J i Vb := hJst i V Vb h1 ⟨by rw [← hVb]; rfl, by rw [← hVb]; rfl, by rw [← hVb]; rfl, by omega, fun b hb => hVbn b (by omega)⟩
          have hB := hround i x Vb hx hJb (by omega)
          dsimp only at hB
          refine ⟨fn, _, assign, body, by rw [run_yield h2 (by rw [hrec]; simpa using hxl), hrec], roundIn_of_wpIn trivial ?_⟩
          split at hB
          · rename_i e1 he1
            have hrel := roundEnv_rel ps.toList x { e with ds := [] } { tmps := a.tmps, defers := [] } ⟨hr.size, rfl, hr.get⟩ hps' (by simpa using hxl.symm)
            have hfold : (ps.zip x.toArray).foldl (fun tmps (t, v) => tmps.setIfInBounds t v) (rec .ready none).tmps = (ps.toList.zip x).foldl (fun t (p, v) => t.setIfInBounds p v) a.tmps := by
              rw [hrec, ← Array.foldl_toList]; simp
            rw [hrec] at hfold
            simp only [hfold]
            refine assignE_sound (ro := some (w.heap.size + 1)) assign _ e1 _ _ he1 hrel fun a' hr' => ?_
            refine ⟨Vb, by rw [← hVb]; exact run_beginRound h2 (by rw [hrec]), ?_⟩
            refine ihb (some (w.heap.size + 1)) 0 (i0 + 1) e1 a' Vb _ _ _ (fun _ => True) _ (fun _ _ => trivial) hr' ?_ (fun _ _ _ _ _ _ hk => hk.elim) (fun _ _ _ _ hk => hk.elim) hB
            rintro e' a'' w'' _ _ ⟨hJ', hkeep⟩
            have hl'' : w''.heap[w.heap.size + 1]? = some (.loop { rec .ready none with state := .busy }) := (hkeep.2 _ (by omega) (by omega)).trans hVbl
            have hD'' : w''.heap[w.heap.size]? = some (.deferred (some [])) := ((hkeep.2 _ (by omega) (by omega)).trans (hVbn _ (by omega))).trans h3
            have hws := hkeep.1
            refine ⟨.bool true, _, run_endRound none hl'', rfl, ⟨hJst _ w'' _ hJ' ⟨rfl, rfl, rfl, by rw [putObj_size]; omega, fun b hb => putObj_ne (by omega)⟩, ?_, ?_⟩, ?_⟩
            · rw [putObj_self hl'', hrec]; rfl
            · rw [putObj_ne (by omega)]; exact hD''
            · refine ⟨by rw [putObj_size]; omega, fun b hb1 hb2 => ?_⟩
              rw [putObj_ne (by omega), hkeep.2 b (by omega) (by omega)]
              exact hVbn b (by omega)
          · exact hB.elim
        · exact ⟨hJst 0 w W1 hJ0 hB1, hL1, hD1⟩
        · intro en W' hq
          cases en with
          | panicked c => exact hq.elim
          | outgrown => exact hq.elim
          | returned v =>
            obtain ⟨h1, h2, h3⟩ := hq
            have hlt := (Array.getElem?_eq_some_iff.1 h2).1
            refine ⟨none, _, (by have hel := run_endLoop (P := P) h2 (by rw [hrec]; intro hh; cases hh); rw [show (rec .ready none).pending = none from by rw [hrec]] at hel; exact hel), ?_⟩
            refine hn { e with ds := w.heap.size :: e.ds } _ _ ⟨hr.size, by simp [hr.defers], hr.get⟩ (fun hh => by cases hh) (hdone _ w.heap.size ?_ (Nat.le_refl _) ?_ ?_)
            · exact hJst _ W' _ h1 ⟨rfl, rfl, rfl, by rw [putObj_size]; omega, fun b hb => putObj_ne (by omega)⟩
            · rw [putObj_size]; omega
            · rw [putObj_ne (by omega)]; exact h3
  | _ => intro ro n i e a w kn kx kr M Q hM hr hn hx hret h; exact h.elim

/-! ### A function -/

def argAt : List Value → Nat → Slot
  | [], _ => .unk
  | v :: _, 0 => .val v
  | _ :: r, n + 1 => argAt r n
def env0 (args : List Value) : Env := { get := argAt args, ds := [] }
structure readW (P : Program) (s : Sem Value) (w : World) (K : Value → Prop) : Prop where
  out : ∃ v, s.run P w = .ok v w ∧ K v
def tupOf : List Value → Value | [v] => v | l => .tuple l.toArray
def resGo (P : Program) : List ResultVar → Env → World → List Value → (Value → World → Prop) → Prop
  | [], _, w, acc, R => R (tupOf acc) w
  | .tmp t :: rest, e, w, acc, R => bif (e.get t).known then resGo P rest e w (acc ++ [(e.get t).v]) R else False
  | .cell t T :: rest, e, w, acc, R => bif (e.get t).known then readW P (Instr.loadAt T (e.get t).v) w (fun v => resGo P rest e w (acc ++ [v]) R) else False
structure takeD (P : Program) (D : Nat) (w : World) (K : World → Prop) : Prop where
  out : ∃ w', (Instr.takeDeferred D).run P w = .ok [] w' ∧ K w'
def takeDs (P : Program) : List Nat → World → (World → Prop) → Prop
  | [], w, K => K w
  | D :: r, w, K => takeD P D w (fun w' => takeDs P r w' K)
def resE (P : Program) (rs : List ResultVar) (R : Value → World → Prop) (e : Env) (w : World) : Prop :=
  takeDs P e.ds w (fun w' => resGo P rs e w' [] R)

theorem argAt_spec : ∀ (l : List Value) (n : Nat), (argAt l n).known = true → l[n]? = some (argAt l n).v
  | [], _, h => by cases h
  | v :: _, 0, _ => rfl
  | _ :: r, n + 1, h => argAt_spec r n h

def resSem (tmps : Array Value) : ResultVar → Sem Value
  | .tmp t => pure (tmps.getD t undef)
  | .cell a t => do loadVar t (← asAddr (tmps.getD a undef))
theorem results_eq (fn : Func) (tmps : Array Value) : results fn tmps = (do let vs ← fn.results.mapM (resSem tmps); pure (if h : vs.size = 1 then vs[0] else .tuple vs)) := by
  unfold results
  congr 1

theorem run_mapM_cons {α : Type} (P : Program) (f : α → Sem Value) (x : α) (l : List α) {w w1 w2 : World} {v : Value} {vs : List Value} (h1 : (f x).run P w = .ok v w1) (h2 : (l.mapM f).run P w1 = .ok vs w2) :
    ((x :: l).mapM f).run P w = .ok (v :: vs) w2 := by
  simp [List.mapM_cons, h1, h2, Result.andThen]

theorem sure_as {P : Program} {w w' : World} {T : TypeId} {v x : Value} (h : (Instr.loadAt T x).run P w = .ok v w') : (do loadVar T (← asAddr x) : Sem Value).run P w = .ok v w' := by
  unfold Instr.loadAt at h
  cases x with
  | pointer a =>
    cases a with
    | none => simp [Instr.sureAddr, stuck, Result.andThen] at h
    | some a => simpa [Instr.sureAddr, asAddr, Result.andThen] using h
  | _ => simp [Instr.sureAddr, stuck, Result.andThen] at h

theorem resGo_sound {P : Program} {N : Nat} {e : Env} {a : Act} (hr : Rel N e a) {R : Value → World → Prop} {w : World} : ∀ (rs : List ResultVar) (acc : List Value), resGo P rs e w acc R →
    ∃ vs, (rs.mapM (resSem a.tmps)).run P w = .ok vs w ∧ R (tupOf (acc ++ vs)) w
  | [], acc, h => ⟨[], rfl, by rw [List.append_nil]; exact h⟩
  | .tmp t :: rest, acc, h => by
    unfold resGo at h
    cases hk : (e.get t).known with
    | false => rw [hk] at h; exact h.elim
    | true =>
      rw [hk] at h
      obtain ⟨vs, h1, h2⟩ := resGo_sound hr rest _ h
      refine ⟨_ :: vs, run_mapM_cons P _ _ _ (v := a.tmps.getD t undef) rfl h1, ?_⟩
      rw [hr.get t hk]
      simpa using h2
  | .cell t T :: rest, acc, h => by
    unfold resGo at h
    cases hk : (e.get t).known with
    | false => rw [hk] at h; exact h.elim
    | true =>
      rw [hk] at h
      obtain ⟨v, hv, h⟩ := h
      obtain ⟨vs, h1, h2⟩ := resGo_sound hr rest _ h
      refine ⟨v :: vs, run_mapM_cons P _ _ _ ?_ h1, by simpa using h2⟩
      show (do loadVar T (← asAddr (a.tmps.getD t undef)) : Sem Value).run P w = .ok v w
      rw [hr.get t hk]
      exact sure_as hv

theorem results_run {P : Program} {fn : Func} {tmps : Array Value} {w : World} {vs : List Value} (h : (fn.results.toList.mapM (resSem tmps)).run P w = .ok vs w) :
    (results fn tmps).run P w = .ok (tupOf vs) w := by
  rw [results_eq, Array.mapM_eq_mapM_toList]
  simp only [Sem.run_bind, Sem.run_map, h, Result.andThen, Sem.run_pure]
  cases vs with
  | nil => rfl
  | cons v r => cases r <;> rfl

theorem leaves_of {P : Program} {fn : Func} {tmps : Array Value} {R : Ending → World → Prop} {K : World → Prop} (hK : ∀ w, K w → ∃ v, (results fn tmps).run P w = .ok v w ∧ R (.returned v) w) : ∀ (ds : List Nat) (w : World), takeDs P ds w K →
    LeavesInM Fence.wide 0 P fn tmps R (ds.map mark) .returning w
  | [], w, h => hK w h
  | D :: r, w, h => by
    obtain ⟨w', h1, h2⟩ := h
    exact ⟨by simp, .inl ⟨D, w', rfl, h1, leaves_of hK r w' h2⟩⟩

theorem fn_sound {P : Program} {f : FuncId} {fn : Func} (hf : P.funcs[f]? = some fn) (hb : fn.body.isSome = true) (ann : Nat → Option (List Nat)) {args : List Value} {w : World} {R : Value → World → Prop}
    (h : Nat.ble args.length fn.ntmps = true ∧ WPE P fn.ntmps ann false 0 (fn.body.getD .skip) (env0 args) w (resE P fn.results.toList R) (fun _ _ _ => False) (resE P fn.results.toList R)) :
    Calls P f args.toArray w (retK R) := by
  obtain ⟨hle, h⟩ := h
  have hle := Nat.le_of_ble_eq_true hle
  obtain ⟨c, hc⟩ := Option.isSome_iff_exists.1 hb
  rw [hc, Option.getD_some] at h
  refine (callsIn_wide (n := 0)).1 (callsIn_of_wp_marks hf hc trivial ?_)
  have hrel : Rel fn.ntmps (env0 args) { tmps := args.toArray ++ Array.replicate (fn.ntmps - args.toArray.size) undef, defers := [] } := by
    refine ⟨by simp; omega, rfl, fun t ht => ?_⟩
    have hs := argAt_spec args t ht
    have hlt := (List.getElem?_eq_some_iff.1 hs).1
    show _ = (argAt args t).v
    rw [Array.getD_eq_getD_getElem?, Array.getElem?_append_left (by simpa using hlt)]
    simp only [List.getElem?_toArray, hs, Option.getD_some]
  have fin : ∀ e' a' w', Rel fn.ntmps e' a' → resE P fn.results.toList R e' w' → LeavesInM Fence.wide 0 P fn a'.tmps (retK R) a'.defers .returning w' := by
    intro e' a' w' hr' hk
    rw [hr'.defers]
    refine leaves_of (fun w'' hk' => ?_) e'.ds w' hk
    obtain ⟨vs, h1, h2⟩ := resGo_sound hr' _ _ hk'
    exact ⟨_, results_run h1, h2⟩
  exact WPE_sound c none 0 0 (env0 args) _ w _ _ _ (fun _ => True) _ (fun _ _ => trivial) hrel (fun e' a' w' hr' _ hk => fin e' a' w' hr' hk) (fun _ _ _ _ _ _ hk => hk.elim) (fun e' a' w' hr' hk => fin e' a' w' hr' hk) h

theorem callFunc_enters {P : Program} {f : FuncId} {fn : Func} (hf : P.funcs[f]? = some fn) (hn : (fn.name == "runtime.NumGoroutine") = false) (hb : fn.body.isNone = false) (args : Array Value) (w : World) :
    (callFunc f args).run P w = .ok (.enter f args) w := by
  have hp : (program : Sem Program).run P w = .ok P w := rfl
  unfold callFunc
  simp only [Sem.run_bind, hp, Result.andThen, hf, hn, hb]
  rfl

theorem call_of {P : Program} {r : Bool} {f : FuncId} {fn : Func} {cap args all : Array Value} (hf : P.funcs[f]? = some fn) (hn : (fn.name == "runtime.NumGoroutine") = false) (hb : fn.body.isNone = false) (ha : (#[] ++ args) ++ cap = all)
    {w : World} {K : Value → World → Prop} (h : Calls P f all w (retK K)) : callV P r (.func (.func f) #[] cap) args w K := by
  refine ⟨.inl ⟨f, all, ?_, h⟩⟩
  unfold callSem Deferred.ofValue
  simp only [pure_bind, invoke]
  rw [ha]
  exact callFunc_enters hf hn hb _ _

theorem of_eq {B C : Prop} {x : Bool} (h1 : x = true) (h2 : B = C) (h : C) : (x = true) ∧ B := ⟨h1, h2 ▸ h⟩

end Go.Proofs.Ytbcmoikpmmjlkaa.Eng
