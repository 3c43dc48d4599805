/- Keys of maps: bytes, locs, prints; what key.Of and key.words compute. -/
import Derived.Test.YtbcmoikpmmjlkaaD
import Derived.RangeFuncRecord
namespace Go.Proofs.Ytbcmoikpmmjlkaa
open Go Eng
set_option maxRecDepth 100000
structure Pr where
  n : Int
  a : Int
  b : Int
  c : Int
  d : Int
  e : Int
  f : Int
  g : Int
  h : Int
  deriving DecidableEq
def ekP (p : Pr) : Value := .agg #[.int .u8 p.n, .int .u64 p.a, .int .u64 p.b, .int .u64 p.c, .int .u64 p.d, .int .u64 p.e, .int .u64 p.f, .int .u64 p.g, .int .u64 p.h]
theorem eq_of_bin {T : TypeId} {x y : Value} {b : Bool} {w : World} (h : (do pure (.bool (← Op.equal T x y)) : Sem Value).run Pg w = .ok (.bool b) w) : (Op.equal T x y : Sem Bool).run Pg w = .ok b w := by
  simp only [Sem.run_bind] at h
  cases e : (Op.equal T x y : Sem Bool).run Pg w with
  | ok c w' => rw [e] at h; simp [Result.andThen] at h; rw [h.1, h.2]
  | halt c w' => rw [e] at h; simp [Result.andThen] at h
def ekB (p : Int) : Value := .int .u8 p
theorem keyB : KeyOk 5 ekB where
  eq a b w := by
    show (Op.equalIn (9999 + 1) 5 _ _).run Pg w = _
    unfold Op.equalIn
    simp [ekB, run_und Try.underlying5, Result.andThen]
    rfl
  now := ⟨_, Try.underlying5, .inr fun a b => by simp [ekB, Instr.sameNow]; rfl⟩
  check f a w := by
    show (Instr.checkKey f (9999 + 1) 5 _).run Pg w = _
    unfold Instr.checkKey
    simp [ekB, run_und Try.underlying5, Result.andThen]
  bits a := by simp [ekB, Instr.sameBits]
def ekL (p : Int × Int) : Value := .agg #[.int .u32 p.1, .int .u32 p.2]
theorem ck32 (f : Bool) (n : Nat) (T : TypeId) (q : IntKind) (hT : Pg.underlying T = some (.int q)) (a : Int) (w : World) : (Instr.checkKey f (n + 1) T (.int q a)).run Pg w = .ok () w := by
  unfold Instr.checkKey
  simp [run_und hT, Result.andThen]
theorem ckL (f : Bool) (n : Nat) (p : Int × Int) (w : World) : (Instr.checkKey f (n + 2) 34 (ekL p)).run Pg w = .ok () w := by
  rw [Instr.checkKey]
  simp [ekL, go_sem, ck32 f n 32 .u32 Try.underlying32]
theorem keyL : KeyOk 34 ekL where
  eq a b w := by
    obtain ⟨a1, a2⟩ := a
    obtain ⟨b1, b2⟩ := b
    refine eq_of_bin ?_
    simp only [ekL]
    show (binOp .eql 34 (.agg #[.int .u32 a1, .int .u32 a2]) (.agg #[.int .u32 b1, .int .u32 b2])).run Pg w = _
    simp [go_sem]
    repeat (first | (split <;> simp_all <;> done) | split)
    all_goals simp_all
  now := ⟨_, Try.underlying34, .inl fun a b => by simp [ekL, Instr.sameNow]⟩
  check f a w := ckL f 9998 a w
  bits a := by
    show Instr.sameBits (9998 + 2) _ _ = true
    generalize 9998 = n
    simp [ekL, Instr.sameBits]
theorem ckA (f : Bool) (n : Nat) (p : Pr) (w : World) : (Instr.checkKey f (n + 2) 131 (.agg #[.int .u64 p.a, .int .u64 p.b, .int .u64 p.c, .int .u64 p.d, .int .u64 p.e, .int .u64 p.f, .int .u64 p.g, .int .u64 p.h])).run Pg w = .ok () w := by
  rw [Instr.checkKey]
  simp [go_sem, ck32 f n 35 .u64 Try.underlying35, List.range'_succ]
theorem ckP (f : Bool) (n : Nat) (p : Pr) (w : World) : (Instr.checkKey f (n + 3) 133 (ekP p)).run Pg w = .ok () w := by
  rw [Instr.checkKey]
  simp [ekP, go_sem, ck32 f (n + 1) 5 .u8 Try.underlying5]
  exact ckA f n p w
theorem eqA (n : Nat) (a1 a2 a3 a4 a5 a6 a7 a8 b1 b2 b3 b4 b5 b6 b7 b8 : Int) (w : World) : (Op.equalIn (n + 2) 131 (.agg #[.int .u64 a1, .int .u64 a2, .int .u64 a3, .int .u64 a4, .int .u64 a5, .int .u64 a6, .int .u64 a7, .int .u64 a8]) (.agg #[.int .u64 b1, .int .u64 b2, .int .u64 b3, .int .u64 b4, .int .u64 b5, .int .u64 b6, .int .u64 b7, .int .u64 b8])).run Pg w =
    .ok (decide (a1 = b1 ∧ a2 = b2 ∧ a3 = b3 ∧ a4 = b4 ∧ a5 = b5 ∧ a6 = b6 ∧ a7 = b7 ∧ a8 = b8)) w := by
  have e64 : ∀ (x y : Int) (w : World), (Op.equalIn (n + 1) 35 (.int .u64 x) (.int .u64 y)).run Pg w = .ok (decide (x = y)) w := by
    intro x y w
    unfold Op.equalIn
    simp [run_und Try.underlying35, Result.andThen]
    rfl
  rw [Op.equalIn]
  simp [go_sem, e64, List.range'_succ]
  by_cases h1 : a1 = b1
  case neg => simp [h1]
  by_cases h2 : a2 = b2
  case neg => simp [h2]
  by_cases h3 : a3 = b3
  case neg => simp [h3]
  by_cases h4 : a4 = b4
  case neg => simp [h4]
  by_cases h5 : a5 = b5
  case neg => simp [h5]
  by_cases h6 : a6 = b6
  case neg => simp [h6]
  by_cases h7 : a7 = b7
  case neg => simp [h7]
  by_cases h8 : a8 = b8
  case neg => simp [h8]
  simp [h1, h2, h3, h4, h5, h6, h7, h8]
theorem keyP : KeyOk 133 ekP where
  eq a b w := by
    obtain ⟨a0, a1, a2, a3, a4, a5, a6, a7, a8⟩ := a
    obtain ⟨b0, b1, b2, b3, b4, b5, b6, b7, b8⟩ := b
    refine eq_of_bin ?_
    simp only [ekP]
    show (binOp .eql 133 (.agg #[.int .u8 a0, .int .u64 a1, .int .u64 a2, .int .u64 a3, .int .u64 a4, .int .u64 a5, .int .u64 a6, .int .u64 a7, .int .u64 a8]) (.agg #[.int .u8 b0, .int .u64 b1, .int .u64 b2, .int .u64 b3, .int .u64 b4, .int .u64 b5, .int .u64 b6, .int .u64 b7, .int .u64 b8])).run Pg w = _
    simp [go_sem]
    have := eqA 9997 a1 a2 a3 a4 a5 a6 a7 a8 b1 b2 b3 b4 b5 b6 b7 b8 w
    rw [show (9997 + 2 : Nat) = 9999 from rfl] at this
    rw [this]
    by_cases h : a1 = b1 ∧ a2 = b2 ∧ a3 = b3 ∧ a4 = b4 ∧ a5 = b5 ∧ a6 = b6 ∧ a7 = b7 ∧ a8 = b8
    · simp [h]
      by_cases h0 : a0 = b0 <;> simp [h0]
    · have h2 : (decide (a1 = b1) && (decide (a2 = b2) && (decide (a3 = b3) && (decide (a4 = b4) && (decide (a5 = b5) && (decide (a6 = b6) && (decide (a7 = b7) && decide (a8 = b8)))))))) = false := by simpa using h
      rw [h2]
      simp [h]
  now := ⟨_, Try.underlying133, .inl fun a b => by simp [ekP, Instr.sameNow]⟩
  check f a w := ckP f 9997 a w
  bits a := by
    show Instr.sameBits (9998 + 2) _ _ = true
    generalize 9998 = n
    simp [ekP, Instr.sameBits]

/-! ### key.words -/
/-- Bytes as cells. -/
def byC (k : List Nat) : List Value := k.map fun x => .int .u8 (x : Nat)
@[simp] theorem byC_length (k : List Nat) : (byC k).length = k.length := by simp [byC]
/-- A slice of bytes. -/
def Bs (w : World) (v : Value) (k : List Nat) : Prop := ∃ b off c, v = .slice (some ⟨b, off, none⟩) k.length c ∧ k.length ≤ c ∧ At w b off (byC k)
theorem Bs.bel {w w' : World} {v : Value} {k : List Nat} (h : Bs w v k) (hb : Bel w w') : Bs w' v k := let ⟨b, o, c, h1, h2, h3⟩ := h; ⟨b, o, c, h1, h2, h3.bel hb⟩
/-- A word, its lowest byte first. -/
def leW : List Nat → Nat
  | [] => 0
  | a :: l => a + 256 * leW l
/-- A word's bytes. -/
def chunk (k : List Nat) (i : Nat) : List Nat := (k.drop (8 * i)).take 8
theorem leW_lt : ∀ {l : List Nat}, (∀ x ∈ l, x < 256) → leW l < 256 ^ l.length
  | [], _ => by simp [leW]
  | a :: l, h => by
    have h1 := leW_lt (l := l) fun x hx => h x (List.mem_cons_of_mem _ hx)
    have h2 := h a List.mem_cons_self
    rw [leW, List.length_cons, Nat.pow_succ]
    omega
theorem leW_snoc : ∀ (l : List Nat) (c : Nat), leW (l ++ [c]) = leW l + c * 256 ^ l.length
  | [], c => by simp [leW]
  | a :: l, c => by
    rw [List.cons_append, leW, leW, leW_snoc l c, List.length_cons, Nat.pow_succ, Nat.mul_add, Nat.mul_comm 256 (c * _), Nat.mul_assoc]
    omega
theorem pow_lt {c j : Nat} (hj : j < 8) (hc : c < 256) : c * 256 ^ j < 18446744073709551616 := by
  have h1 : 256 ^ j ≤ 256 ^ 7 := Nat.pow_le_pow_right (by decide) (by omega)
  have h2 : c * 256 ^ j ≤ 255 * 256 ^ 7 := Nat.mul_le_mul (by omega) h1
  omega
theorem pure_shl {c j : Nat} (hj : j < 8) (hc : c < 256) (P : Program) (T : TypeId) (K : Value → Prop) :
    pureP P (binS .shl T (.int .u64 (c : Nat)) (.int .i64 (8 * j : Nat))) K ↔ K (.int .u64 (c * 256 ^ j : Nat)) := pureP_of fun w => by
  show (Op.shift .shl .u64 (c : Nat) .i64 (8 * j : Nat)).run P w = _
  have h1 : min ((8 * j : Nat) : Int).toNat IntKind.u64.bits = 8 * j := by simp [IntKind.bits]; omega
  have h2 : ((c : Int) * 2 ^ (8 * j)) = ((c * 256 ^ j : Nat) : Int) := by
    rw [show (256 : Nat) = 2 ^ 8 by decide, ← Nat.pow_mul]
    push_cast
    rfl
  have h3 : ¬ (((8 * j : Nat) : Int) < 0) := by omega
  unfold Op.shift
  rw [if_neg h3, h1]
  simp only [h2, wrap_u64]
  have := pow_lt hj hc
  rw [Int.emod_eq_of_lt (by omega) (by omega)]
  rfl
theorem pure_orW {a c j : Nat} (hj : j < 8) (ha : a < 256 ^ j) (hc : c < 256) (P : Program) (T : TypeId) (K : Value → Prop) :
    pureP P (binS .or T (.int .u64 (a : Nat)) (.int .u64 (c * 256 ^ j : Nat))) K ↔ K (.int .u64 (a + c * 256 ^ j : Nat)) := pureP_of fun w => by
  show (Op.intBits .or .u64 (a : Nat) (c * 256 ^ j : Nat)).run P w = _
  have hp := pow_lt hj hc
  have h7 : 256 ^ j ≤ 256 ^ 7 := Nat.pow_le_pow_right (by decide) (by omega)
  have ha2 : a < 18446744073709551616 := by omega
  have hor : a ||| c * 256 ^ j = a + c * 256 ^ j := by
    have h := Nat.two_pow_add_eq_or_of_lt (b := a) (i := 8 * j) (by rwa [Nat.pow_mul]) c
    rw [Nat.pow_mul] at h
    rw [Nat.or_comm, Nat.mul_comm c, ← h, Nat.add_comm]
  have hsum : a + c * 256 ^ j < 18446744073709551616 := by
    have h1 : c * 256 ^ j ≤ 255 * 256 ^ j := Nat.mul_le_mul_right _ (by omega)
    omega
  have e1 : (BitVec.ofInt 64 (a : Nat)).toNat = a := by simp; omega
  have e2 : (BitVec.ofInt 64 ((c * 256 ^ j : Nat) : Int)).toNat = c * 256 ^ j := by simp [-Int.natCast_mul, -Int.natCast_pow]; omega
  unfold Op.intBits
  show Result.ok (Value.int .u64 (IntKind.u64.wrap ((BitVec.ofInt 64 (a : Nat) ||| BitVec.ofInt 64 ((c * 256 ^ j : Nat) : Int)).toNat))) w = _
  rw [BitVec.toNat_or, e1, e2, hor, wrap_u64, Int.emod_eq_of_lt (by omega) (by omega)]
theorem yield_of {l : Nat} {args : List Value} {W : World} {K : Value → World → Prop} (h : YieldC Pg l args W K) : callV Pg true (.func (.yield l) #[] #[]) args.toArray W K := by
  obtain ⟨fn, tmps, assign, body, h1, h2⟩ := h
  refine ⟨.inr (.inr ⟨rfl, l, fn, tmps, assign, body, ?_, h2⟩)⟩
  unfold callSem Deferred.ofValue
  simp only [pure_bind, invoke, callFunc]
  simpa using h1
/-- The number in a slot. -/
def n0 (s : List Value) (i : Nat) : Int := match nthV s i with | .int _ n => n | _ => 0
def wordsOf (k : List Nat) : List (List Value) := (List.range ((k.length + 7) / 8)).map fun i => [.int .i64 (i : Nat), .int .u64 (leW (chunk k i) : Nat)]
theorem wordsOf_length (k : List Nat) : (wordsOf k).length = (k.length + 7) / 8 := by simp [wordsOf]
theorem wordsOf_at {k : List Nat} {i : Nat} (h : 8 * i < k.length) : (wordsOf k)[i]? = some [.int .i64 (i : Nat), .int .u64 (leW (chunk k i) : Nat)] := by
  unfold wordsOf
  rw [List.getElem?_map, List.getElem?_range (by omega)]
  rfl
theorem slice36 {b o n c : Nat} {l h : Int} (h0 : 0 ≤ l) (h1 : l ≤ h) (h2 : h ≤ c) (h3 : l < c) (K : Value → Prop) :
    pureP Pg (Instr.sliceAt 36 (.slice (some ⟨b, o, none⟩) n c) (some (.int .i64 l)) (some (.int .i64 h)) none) K ↔ K (.slice (some ⟨b, o + l.toNat, none⟩) (h.toNat - l.toNat) (c - l.toNat)) := pureP_of fun w => by
  have e1 : (Instr.sliceAt 36 (.slice (some ⟨b, o, none⟩) n c) (some (.int .i64 l)) (some (.int .i64 h)) none).run Pg w = (Instr.slice 36 (.slice (some ⟨b, o, none⟩) n c) (some (.int .i64 l)) (some (.int .i64 h)) none).run Pg w := by
    simp [Instr.sliceAt, run_und Try.underlying36, Result.andThen]
  have e2 : (sizeOf 5 : Sem Nat).run Pg w = .ok 1 w := run_size size_5 w
  have b1 : ∀ code, (Instr.sliceBound (.int .i64 h) c code).run Pg w = .ok h.toNat w := fun code => run_sliceBound _ _ _ _ _ (by omega) h2
  have b2 : ∀ code, (Instr.sliceBound (.int .i64 l) h.toNat code).run Pg w = .ok l.toNat w := fun code => run_sliceBound _ _ _ _ _ h0 (by omega)
  rw [e1]
  simp [Instr.slice, run_und Try.underlying36, Result.andThen, Instr.sliceBounds, b1, b2, e2, addr_add]
  omega
@[simp] theorem pure_min (P : Program) (T : Array TypeId) (ty : TypeId) (k : IntKind) (a b : Int) (K : Value → Prop) :
    pureP P (Builtin.min_ T ty #[.int k a, .int k b]) K ↔ K (.int k (if b < a then b else a)) := pureP_of fun w => by simp [Builtin.min_, Builtin.min2]
theorem chunk_length (k : List Nat) (i : Nat) : (chunk k i).length = min 8 (k.length - 8 * i) := by simp [chunk]
theorem chunk_at {k : List Nat} {i j : Nat} (hj : j < (chunk k i).length) : k[8 * i + j]? = some (chunk k i)[j] := by
  have h1 := hj
  rw [chunk_length] at h1
  rw [show (chunk k i)[j] = k[8 * i + j]'(by omega) by simp [chunk]]
  exact List.getElem?_eq_getElem _
theorem chunk_mem {k : List Nat} (hk : ∀ x ∈ k, x < 256) {i : Nat} : ∀ x ∈ chunk k i, x < 256 := fun x hx => hk x (List.mem_of_mem_drop (List.mem_of_mem_take hx))
theorem retK_mono {K K' : Value → World → Prop} (h : ∀ v w, K v w → K' v w) : ∀ e w, retK K e w → retK K' e w
  | .returned v, w, k => h v w k
  | .panicked _, _, k => k
  | .outgrown, _, k => k
theorem YieldC.mono {l : Nat} {args : List Value} {W : World} {K K' : Value → World → Prop} (h : YieldC Pg l args W K) (hk : ∀ v w, K v w → K' v w) : YieldC Pg l args W K' := by
  obtain ⟨fn, tmps, assign, body, h1, h2⟩ := h
  exact ⟨fn, tmps, assign, body, h1, h2.mono fun e w => retK_mono hk e w⟩
theorem it83 {tb b off c : Nat} {k : List Nat} (hk : ∀ x ∈ k, x < 256) (hc : k.length ≤ c) (hc2 : k.length ≤ 1000000) :
    IterC Pg 83 #[.pointer (some ⟨tb, 0, none⟩)] (fun w => hp w tb = some (.cells #[.slice (some ⟨b, off, none⟩) k.length c] 36) ∧ At w b off (byC k)) (wordsOf k) := by
  intro l J W hM hS hY h0
  show Calls Pg 83 #[.func (.yield l) #[] #[], .pointer (some ⟨tb, 0, none⟩)] W _
  refine f83 ?_
  unfold F83
  refine ⟨fun s w => ∃ i : Nat, s = [.int .i64 (8 * i : Nat)] ∧ i ≤ (k.length + 7) / 8 ∧ J i w ∧ W.heap.size ≤ w.heap.size, fun s _ => ((k.length + 8 : Nat) - n0 s 0).toNat, ⟨0, rfl, by omega, h0, Nat.le_refl _⟩, ?_⟩
  rintro s w ⟨i, rfl, hi, hJ, hsz⟩
  obtain ⟨hm1, hm2⟩ := hM i w hJ
  simp [hm1]
  refine ifD (fun h => ?_) (fun h => ?_)
  · have e1 : IntKind.i64.wrap (8 * (i : Int) + 8) = 8 * (i : Int) + 8 := wrap_i64 (by omega) (by omega)
    have e2 : IntKind.i64.wrap (i : Int) = i := wrap_i64 (by omega) (by omega)
    have hlen := chunk_length k i
    have e3 : (if (k.length : Int) < 8 * (i : Int) + 8 then (k.length : Int) else 8 * (i : Int) + 8) = ((8 * i + (chunk k i).length : Nat) : Int) := by split <;> omega
    simp only [e1, e2, pure_min, e3]
    rw [slice36 (by omega) (by omega) (by omega) (by omega)]
    have e4 : ((8 * i + (chunk k i).length : Nat) : Int).toNat - (8 * (i : Int)).toNat = (chunk k i).length := by omega
    have e5 : (8 * (i : Int)).toNat = 8 * i := by omega
    rw [e4, e5]
    simp only [len_36]
    refine ⟨fun s u => u = w ∧ ∃ j : Nat, j ≤ (chunk k i).length ∧ s = [.int .u64 (leW ((chunk k i).take j) : Nat), .int .i64 (j : Nat)], fun s _ => (((chunk k i).length : Int) - n0 s 1).toNat, ⟨rfl, 0, by omega, rfl⟩, ?_⟩
    rintro s u ⟨rfl, j, hj, rfl⟩
    simp
    refine ifD (fun h2 => ?_) (fun h2 => ?_)
    · have hj2 : j < (chunk k i).length := by omega
      rw [show (j : Int) = ((j : Nat) : Int) from rfl, idxR (T := 36) (k := 1) (by kernel_rfl) hj2]
      have hb := hm2.cell (8 * i + j) (by simp; omega)
      rw [byC, List.getElem?_map, chunk_at hj2] at hb
      have hlt : (chunk k i)[j] < 256 := chunk_mem hk _ (List.getElem_mem hj2)
      simp [Nat.mul_one, Nat.add_assoc, hb]
      have e6 : ((chunk k i)[j] : Int) % 18446744073709551616 = ((chunk k i)[j] : Int) := Int.emod_eq_of_lt (by omega) (by omega)
      have e7 : IntKind.i64.wrap (8 * (j : Int)) = ((8 * j : Nat) : Int) := wrap_i64 (by omega) (by omega)
      have e8 : IntKind.i64.wrap ((j : Int) + 1) = ((j + 1 : Nat) : Int) := wrap_i64 (by omega) (by omega)
      have hj8 : j < 8 := by omega
      have htl : ((chunk k i).take j).length = j := by simp; omega
      have hlw : leW ((chunk k i).take j) < 256 ^ j := by
        have := leW_lt (l := (chunk k i).take j) fun x hx => chunk_mem hk x (List.mem_of_mem_take hx)
        rwa [htl] at this
      have hsn : leW ((chunk k i).take (j + 1)) = leW ((chunk k i).take j) + (chunk k i)[j] * 256 ^ j := by
        rw [List.take_succ_eq_append_getElem hj2, leW_snoc, htl]
      rw [e6, e7, pure_shl hj8 hlt, pure_orW hj8 hlw hlt, ← hsn, e8]
      refine ⟨⟨j + 1, by omega, rfl, rfl⟩, ?_⟩
      simp [n0]
      omega
    · have hje : j = (chunk k i).length := by omega
      subst hje
      rw [List.take_length]
      have hy := hY i _ u (wordsOf_at (by omega)) hJ hsz
      refine (yield_of (YieldC.mono hy ?_) : callV Pg true (.func (.yield l) #[] #[]) [.int .i64 (i : Nat), .int .u64 (leW (chunk k i) : Nat)].toArray u _)
      rintro v w2 ⟨rfl, h3, h4⟩
      simp
      refine ⟨⟨i + 1, by omega, by omega, h3, by have := h4.1; omega⟩, ?_⟩
      simp [n0]
      omega
  · have : i = (k.length + 7) / 8 := by omega
    rw [wordsOf_length, ← this]
    exact hJ
theorem readW_of {T : TypeId} {v : Value} {w : World} {K : Value → Prop} (h : getO (loadW Pg T v w) K) : readW Pg (Instr.loadAt T v) w K := by
  obtain ⟨x, h1, h2⟩ := h
  exact ⟨x, loadW_run h1, h2⟩
theorem takeD_of {D : Nat} {w : World} {K : World → Prop} (h : hp w D = some (.deferred (some []))) (hK : K (upd w D (.deferred none))) : takeD Pg D w K :=
  ⟨_, run_takeDeferred h, hK⟩
/-- A key's print. -/
def prOf (k : List Nat) : Pr := ⟨(k.length : Nat), (leW (chunk k 0) : Nat), (leW (chunk k 1) : Nat), (leW (chunk k 2) : Nat), (leW (chunk k 3) : Nat), (leW (chunk k 4) : Nat), (leW (chunk k 5) : Nat), (leW (chunk k 6) : Nat), (leW (chunk k 7) : Nat)⟩
def pw (k : List Nat) (i j : Nat) : Value := .int .u64 (if j < i then (leW (chunk k j) : Int) else 0)
def pcells (k : List Nat) (i : Nat) : Array Value := #[.int .u8 (k.length : Nat), pw k i 0, pw k i 1, pw k i 2, pw k i 3, pw k i 4, pw k i 5, pw k i 6, pw k i 7]
theorem pcells_end {k : List Nat} {i : Nat} (h : k.length ≤ 8 * i) : .agg (pcells k i) = ekP (prOf k) := by
  have h0 : ∀ j, pw k i j = .int .u64 (leW (chunk k j) : Nat) := fun j => by
    unfold pw
    by_cases hj : j < i
    · rw [if_pos hj]
    · rw [if_neg hj]
      have : chunk k j = [] := List.eq_nil_of_length_eq_zero (by rw [chunk_length]; omega)
      rw [this]; rfl
  unfold pcells ekP prOf
  simp only [h0]
theorem pcells_set {k : List Nat} {i : Nat} (h : i < 8) : ((pcells k i).toList.set (1 + i) (.int .u64 (leW (chunk k i) : Nat))).toArray = pcells k (i + 1) := by
  have h0 : ∀ j, j ≠ i → pw k (i + 1) j = pw k i j := fun j hj => by
    unfold pw
    by_cases h1 : j < i
    · rw [if_pos h1, if_pos (by omega)]
    · rw [if_neg h1, if_neg (by omega)]
  have h1 : pw k (i + 1) i = .int .u64 (leW (chunk k i) : Nat) := by unfold pw; rw [if_pos (by omega)]
  have : i = 0 ∨ i = 1 ∨ i = 2 ∨ i = 3 ∨ i = 4 ∨ i = 5 ∨ i = 6 ∨ i = 7 := by omega
  unfold pcells
  rcases this with rfl | rfl | rfl | rfl | rfl | rfl | rfl | rfl <;> rw [h1] <;> simp [h0]
@[simp] theorem pure_mkf (P : Program) (f : Fn) (a c : Array Value) (K : Value → Prop) : pureP P (Instr.makeFunc f a c) K ↔ K (.func f a c) := pureP_of fun w => by simp [Instr.makeFunc]
/-- key.Of. -/
theorem s49 {w : World} {v : Value} {k : List Nat} (hb : Bs w v k) (hk : ∀ x ∈ k, x < 256) (h1 : 1 ≤ k.length) (h2 : k.length ≤ 64) {R : Value → World → Prop} (hR : ∀ w', Bel w w' → R (ekP (prOf k)) w') : F49 v w R := by
  obtain ⟨b, off, c, rfl, hc, hat⟩ := hb
  unfold F49
  simp
  refine c50 (s50 ?_)
  have hk' : (k.length : Int) % 256 = (k.length : Nat) := by omega
  simp [h1, h2, hk']
  refine c69 ?_
  simp [F69]
  have hlt := hat.lt
  have hw0 : Bel w (ext w [.cells #[.int .u8 0, .int .u64 0, .int .u64 0, .int .u64 0, .int .u64 0, .int .u64 0, .int .u64 0, .int .u64 0, .int .u64 0] 133, .cells (pcells k 0) 133, .cells #[.slice (some ⟨b, off, none⟩) k.length c] 36]) := bx' _ _
  have hm : ext w [.cells #[.int .u8 0, .int .u64 0, .int .u64 0, .int .u64 0, .int .u64 0, .int .u64 0, .int .u64 0, .int .u64 0, .int .u64 0] 133, .cells #[.int .u8 k.length, .int .u64 0, .int .u64 0, .int .u64 0, .int .u64 0, .int .u64 0, .int .u64 0, .int .u64 0, .int .u64 0] 133, .cells #[.slice (some ⟨b, off, none⟩) k.length c] 36] = ext w [.cells #[.int .u8 0, .int .u64 0, .int .u64 0, .int .u64 0, .int .u64 0, .int .u64 0, .int .u64 0, .int .u64 0, .int .u64 0] 133, .cells (pcells k 0) 133, .cells #[.slice (some ⟨b, off, none⟩) k.length c] 36] := by
    simp [pcells, pw]
  rw [hm]
  generalize hu : ext w [.cells #[.int .u8 0, .int .u64 0, .int .u64 0, .int .u64 0, .int .u64 0, .int .u64 0, .int .u64 0, .int .u64 0, .int .u64 0] 133, .cells (pcells k 0) 133, .cells #[.slice (some ⟨b, off, none⟩) k.length c] 36] = u at hw0 ⊢
  have g0 : hp u w.heap.size = some (.cells #[.int .u8 0, .int .u64 0, .int .u64 0, .int .u64 0, .int .u64 0, .int .u64 0, .int .u64 0, .int .u64 0, .int .u64 0] 133) := by rw [← hu]; simp
  have g1 : hp u (w.heap.size + 1) = some (.cells (pcells k 0) 133) := by rw [← hu]; simp
  have g2 : hp u (w.heap.size + 2) = some (.cells #[.slice (some ⟨b, off, none⟩) k.length c] 36) := by rw [← hu]; simp
  have hsz : u.heap.size = w.heap.size + 3 := by rw [← hu]; simp
  refine ⟨83, #[.pointer (some ⟨w.heap.size + 2, 0, none⟩)], _, fun i W => i ≤ 8 ∧ Bel w W ∧ u.heap.size ≤ W.heap.size ∧ hp W w.heap.size = some (.cells #[.int .u8 0, .int .u64 0, .int .u64 0, .int .u64 0, .int .u64 0, .int .u64 0, .int .u64 0, .int .u64 0, .int .u64 0] 133) ∧ hp W (w.heap.size + 1) = some (.cells (pcells k i) 133) ∧ hp W (w.heap.size + 2) = some (.cells #[.slice (some ⟨b, off, none⟩) k.length c] 36),
    wordsOf k, rfl, ?_, it83 (tb := w.heap.size + 2) (b := b) (off := off) (c := c) hk hc (by omega), ?_, ?_, ?_, ?_, ?_, ?_⟩
  · exact callFunc_enters Try.func83 (by kernel_rfl) (by kernel_rfl)
  · intro x hx
    obtain ⟨i, _, rfl⟩ := List.mem_map.1 hx
    rfl
  · rintro i W ⟨_, hB, _, _, _, g⟩
    exact ⟨g, hat.bel hB⟩
  · exact ⟨by omega, hw0, Nat.le_refl _, g0, g1, g2⟩
  · rintro i W W' ⟨h3, hB, h4, e0, e1, e2⟩ hS
    refine ⟨h3, hB.trans (hS.mono (by omega)), Nat.le_trans h4 hS.size, ?_, ?_, ?_⟩
    · rw [← e0]; exact hS.block _ (by omega)
    · rw [← e1]; exact hS.block _ (by omega)
    · rw [← e2]; exact hS.block _ (by omega)
  · rintro i x W hx ⟨h3, hB, h4, e0, e1, e2⟩ h5
    have hi : i < (k.length + 7) / 8 := by rw [← wordsOf_length]; exact (List.getElem?_eq_some_iff.1 hx).1
    rw [wordsOf_at (by omega)] at hx
    injection hx with hx
    subst hx
    simp
    rw [idx_131 _ _ _ _ _ ⟨by omega, by omega⟩]
    have hps := pcells_set (k := k) (i := i) (by omega)
    simp [e1]
    have h9 : (pcells k i).size = 9 := rfl
    rw [hps, if_pos (by omega)]
    simp [e1, e0, e2, hsz]
    refine ⟨⟨by omega, bu hB (by omega) _, by omega⟩, by simp, fun j hj _ => ?_⟩
    exact upd_ne _ _ _ _ (by omega)
  · rintro W D ⟨h3, hB, h4, e0, e1, e2⟩ h5 h6 h7
    have hne : D ≠ w.heap.size := by omega
    have h7' : hp W D = some (.deferred (some [])) := h7
    have hpe := pcells_end (k := k) (i := (wordsOf k).length) (by rw [wordsOf_length]; omega)
    have hfin := hR (upd (upd W w.heap.size (.cells (pcells k (wordsOf k).length) 133)) D (.deferred none)) (bu (bu hB (Nat.le_refl _) _) (by omega) _)
    rw [← hpe] at hfin
    injection hpe with hpe
    rw [hpe] at e1 hfin
    simp [e1, e0]
    refine takeD_of (by simp [h7', hne]) ?_
    refine readW_of ?_
    simp [e0, hne.symm]
    exact hfin
end Go.Proofs.Ytbcmoikpmmjlkaa
