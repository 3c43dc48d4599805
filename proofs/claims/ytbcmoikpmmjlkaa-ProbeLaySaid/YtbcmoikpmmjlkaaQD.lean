/- Law 14: a table in memory; who is ahead; find. -/
import Derived.Test.YtbcmoikpmmjlkaaQC
namespace Go.Proofs.Ytbcmoikpmmjlkaa
open Go Eng
set_option maxRecDepth 100000
def Pm.kv (x : Pm) : Value := .slice x.ka x.key.length x.kc
def encPm (x : Pm) : List Value := [.bool x.used, .slice x.ka x.key.length x.kc, .int .u64 x.n, .int .i64 (x.far : Nat)]
theorem encPm_ok : Enc 4 encPm := ⟨fun _ => rfl, fun x u hu => by simp [encPm] at hu; rcases hu with rfl | rfl | rfl | rfl <;> rfl, by decide⟩
/-- A key in a slot. -/
structure KeyM (w : World) (B : Nat) (x : Pm) : Prop where
  kc : Kc w B x.kv x.key
  byte : ∀ c ∈ x.key, c < 256
  len : 1 ≤ x.key.length ∧ x.key.length ≤ 64
structure Keys (w : World) (B : Nat) (L : List Pm) : Prop where
  used : ∀ x ∈ L, x.used = true → KeyM w B x
  zero : ∀ x ∈ L, x.used = false → x = zPm
/-- A table in memory: its cell r, its row g. -/
structure TbM (w : World) (B r g seed : Nat) (L : List Pm) (many : Nat) : Prop where
  cell : hp w r = some (.cells #[.int .u64 (seed : Nat), .slice (some ⟨g, 0, none⟩) L.length L.length, .int .i64 (many : Nat)] 153)
  row : hp w g = some (.cells (L.flatMap encPm).toArray 96)
  keys : Keys w B L
  geR : B ≤ r
  geG : B ≤ g
theorem KeyM.bel {w w' : World} {B : Nat} {x : Pm} (h : KeyM w B x) (k : Bel w w') : KeyM w' B x := ⟨h.kc.bel k, h.byte, h.len⟩
theorem Keys.bel {w w' : World} {B : Nat} {L : List Pm} (h : Keys w B L) (k : Bel w w') : Keys w' B L := ⟨fun x hx hu => (h.used x hx hu).bel k, h.zero⟩
theorem TbM.bel {w w' : World} {B r g seed many : Nat} {L : List Pm} (h : TbM w B r g seed L many) (k : Bel w w') : TbM w' B r g seed L many := ⟨bg k h.cell, bg k h.row, h.keys.bel k, h.geR, h.geG⟩
theorem TbM.rd {w : World} {B r g seed many : Nat} {L : List Pm} (h : TbM w B r g seed L many) : Rd w 4 encPm (.slice (some ⟨g, 0, none⟩) L.length L.length) L :=
  rd_lit encPm_ok h.row (by simp) rfl
theorem sl_get {L : List Pm} {n p : Nat} (hl : L.length = n) (hn : 0 < n) : L[p % n]? = some (sl L p) := by
  subst hl
  have := Nat.mod_lt p hn
  unfold sl
  rw [List.getD_eq_getElem?_getD, List.getElem?_eq_getElem this]; rfl
theorem rdS {St : World → Prop} {b o T : Nat} {X : Obj} {x : Value} (h : ∀ u, St u → hp u b = some X) (hx : ldSh (shapeT Pg T) (some X) o = some x) {K : Value → Prop} (k : K x) : readP St (loadW Pg T (.pointer (some ⟨b, o, none⟩))) K :=
  ⟨x, fun u hu => by rw [loadW_ptr, h u hu]; exact hx, k⟩
theorem Keys.kb {w : World} {B : Nat} {L : List Pm} (h : Keys w B L) {x : Pm} (hx : x ∈ L) : Kb w x.kv x.key ∧ ∀ c ∈ x.key, c < 256 := by
  cases hu : x.used with
  | true => exact ⟨(h.used x hx hu).kc.kb, (h.used x hx hu).byte⟩
  | false => rw [h.zero x hx hu]; exact ⟨⟨⟨none, 0, rfl⟩, fun hn => absurd rfl hn⟩, fun c hc => by cases hc⟩
/-- bytes.Equal. -/
theorem s43' {w : World} {v1 v2 : Value} {k1 k2 : List Nat} (h1 : Kb w v1 k1) (h2 : Kb w v2 k2) (b1 : ∀ x ∈ k1, x < 256) (b2 : ∀ x ∈ k2, x < 256) {R : Value → World → Prop} (hR : R (.bool (decide (k1 = k2))) w) : F43 v1 v2 w R := by
  unfold F43
  refine conv_kb h1 b1 ?_
  refine conv_kb h2 b2 ?_
  refine (pure_eqStr _ _ _).2 ?_
  have : decide (strOf k1 = strOf k2) = decide (k1 = k2) := decide_eq_decide.2 ⟨strOf_inj b1 b2, fun e => by rw [e]⟩
  rw [this]
  exact hR
/-- probe.ahead. -/
theorem s81 {w : World} {v : Value} {k : List Nat} {f : Nat} {x : Pm} (hv : Kb w v k) (hk : ∀ c ∈ k, c < 256) (hx : Kb w x.kv x.key ∧ ∀ c ∈ x.key, c < 256) {R : Value → World → Prop} (hR : ∀ w', Bel w w' → R (.bool (aheadB k f x)) w') :
    F81 v (.int .i64 (f : Nat)) (.agg (encPm x).toArray) w R := by
  unfold F81
  refine (newP_some _ _ _ _).2 ?_
  have hb := bx' w [.cells (Value.agg (encPm x).toArray).cells 96]
  have g0 := hp_new w (.cells (Value.agg (encPm x).toArray).cells 96)
  generalize ext w [.cells (Value.agg (encPm x).toArray).cells 96] = u at hb g0 ⊢
  have e0 : (Value.agg (encPm x).toArray).cells = #[.bool x.used, .slice x.ka x.key.length x.kc, .int .u64 x.n, .int .i64 (x.far : Nat)] := rfl
  rw [e0] at g0
  have hr := hR u hb
  unfold aheadB at hr
  simp [g0]
  refine ifB (fun h => ?_) (fun h => ?_)
  · rw [h] at hr; exact hr
  · rw [h] at hr
    refine ifD (fun h2 => ?_) (fun h2 => ?_)
    · rw [decide_eq_true (by omega)] at hr; simpa using hr
    · rw [decide_eq_false (by omega)] at hr
      refine ifD (fun h3 => ?_) (fun h3 => ?_)
      · have h3 : f = x.far := by omega
        rw [decide_eq_true h3] at hr
        refine c70 (s70 (hv.bel hb) (hx.1.bel hb) hk hx.2 ?_)
        simp
        have : decide (cmpK k x.key < 0) = ltK k x.key := by
          cases hl : ltK k x.key with
          | true => exact decide_eq_true ((cmpK_lt hk hx.2).2 hl)
          | false => exact decide_eq_false fun hc => by rw [(cmpK_lt hk hx.2).1 hc] at hl; cases hl
        rw [this]
        simpa using hr
      · rw [decide_eq_false (by omega)] at hr
        simpa using hr
/-- probe.next. -/
theorem s67 {w : World} {B r g seed many e : Nat} {L : List Pm} (h : TbM w B r g seed L many) (hl : L.length = 2 ^ e) (he : e ≤ 20) {p : Nat} (hp : p < 1000000000) {R : Value → World → Prop} (hR : R (.int .i64 ((p + 1) % L.length : Nat)) w) :
    F67 (.pointer (some ⟨r, 0, none⟩)) (.int .i64 (p : Nat)) w R := by
  have h2 : 2 ^ e ≤ 2 ^ 20 := Nat.pow_le_pow_right (by decide) he
  have hp0 : 0 < 2 ^ e := Nat.pow_pos (by decide)
  have e1 : IntKind.i64.wrap ((p : Int) + 1) = ((p + 1 : Nat) : Int) := i64_succ (by omega)
  have e2 : IntKind.i64.wrap ((L.length : Int) - 1) = ((2 ^ e - 1 : Nat) : Int) := by rw [wrap_i64 (by omega) (by omega), hl]; omega
  unfold F67
  simp [h.cell]
  rw [e1, e2]
  refine (pure_andN (.inr rfl) (.inl (by omega)) he _ _ _).2 ?_
  rw [← hl]
  exact hR
/-- The place a key is at home in. -/
def hm (seed n : Nat) (k : List Nat) : Nat := hashOf seed k % n
/-- probe.home. -/
theorem s80 {w : World} {B r g seed many e : Nat} {L : List Pm} (h : TbM w B r g seed L many) (hs : seed < 18446744073709551616) (hl : L.length = 2 ^ e) (he : e ≤ 20) {v : Value} {k : List Nat} (hb : Bs w v k) (hk : ∀ c ∈ k, c < 256) (h2 : k.length ≤ 1000)
    {R : Value → World → Prop} (hR : ∀ w', Bel w w' → R (.int .i64 (hm seed L.length k : Nat)) w') : F80 (.pointer (some ⟨r, 0, none⟩)) v w R := by
  have hp2 : 2 ^ e ≤ 2 ^ 20 := Nat.pow_le_pow_right (by decide) he
  have hp0 : 0 < 2 ^ e := Nat.pow_pos (by decide)
  have hd := bd (br w)
  have hc := bg hd h.cell
  unfold F80
  refine drawn' (St0 := fun x => hp x r = some (.cells #[.int .u64 (seed : Nat), .slice (some ⟨g, 0, none⟩) L.length L.length, .int .i64 (many : Nat)] 153)) hc fun St hS => ?_
  simp
  refine rdS (fun x hx => (hS x).1 hx) (x := .int .u64 (seed : Nat)) rfl ?_
  refine rdS (fun x hx => (hS x).1 hx) (x := .slice (some ⟨g, 0, none⟩) L.length L.length) rfl ?_
  have e2 : IntKind.i64.wrap ((L.length : Int) - 1) = ((2 ^ e - 1 : Nat) : Int) := by rw [wrap_i64 (by omega) (by omega), hl]; omega
  have e3 : ((2 ^ e - 1 : Nat) : Int) % 18446744073709551616 = ((2 ^ e - 1 : Nat) : Int) := by omega
  simp
  rw [e2, e3]
  refine c32 (s32 hs (hb.bel hd) hk h2 fun w' b => ?_)
  refine ⟨(hS _).2 (bg b hc), ?_⟩
  have hh : hashOf seed k < 18446744073709551616 := hashI_lt hs k _
  have hm1 := Nat.mod_lt (hashOf seed k) hp0
  refine (pure_andN (.inl rfl) (.inr ⟨rfl, hh⟩) he _ _ _).2 ?_
  have e4 : IntKind.i64.wrap ((hashOf seed k % 2 ^ e : Nat) : Int) = ((hashOf seed k % 2 ^ e : Nat) : Int) := i64_nat (by omega)
  have := hR w' (bt hd b)
  unfold hm at this
  rw [hl, ← e4] at this
  generalize hashOf seed k % 2 ^ e = y at this ⊢
  simpa using this
end Go.Proofs.Ytbcmoikpmmjlkaa
