/- Law 25, PlanTells: few. -/
import Derived.Test.YtbcmoikpmmjlkaaPI
namespace Go.Proofs.Ytbcmoikpmmjlkaa
open Go Eng
set_option maxRecDepth 100000
structure Few (w : World) (x : Im) : Prop where
  len : x.it.key.length ≤ 70
  byte : ∀ c ∈ x.it.key, c < 256
  key : x.it.key ≠ [] → Bs w x.kv x.it.key
theorem bs_take {w : World} {v : Value} {k : List Nat} (h : Bs w v k) (n : Nat) : ∀ a c, v = .slice a k.length c → (Bs w (.slice a (k.take n).length c) (k.take n)) := by
  rintro a c rfl
  obtain ⟨b, o, c', e, hc, hat⟩ := h
  injection e with e1 e2 e3
  subst e1; subst e3
  refine ⟨b, o, c, rfl, by simp; omega, ?_⟩
  obtain ⟨cs, E, fr, h1, h2⟩ := hat
  refine ⟨cs, E, fr, h1, fun j y hy => h2 j y ?_⟩
  unfold byC at hy ⊢
  rw [List.map_take, List.getElem?_take] at hy
  split at hy
  · exact hy
  · cases hy
/-- law25.few. -/
theorem s36 {w0 w : World} {v : Value} {ims : List Im} (h : Items w0 v ims) (hb0 : Bel w0 w) (hc : ∀ x ∈ ims, x.it.key.length ≤ x.kc) {R : Value → World → Prop}
    (hR : ∀ w' v' l, Bel w w' → Own w' w.heap.size 79 4 encIm v' l → l.length ≤ 60 → (∀ x ∈ l, Few w0 x) → R v' w') : F36 v w R := by
  have hrd := h.rd
  obtain ⟨a, c, rfl⟩ := hrd.form
  unfold F36
  simp [-newP_some, -storeW_ptr, -zero_79]
  refine ⟨fun s u => ∃ (ov : Value) (i : Nat) (l : List Im), s = [ov, .int .i64 (i : Nat)] ∧ i ≤ ims.length ∧ i ≤ 60 ∧ Bel w u ∧ Own u w.heap.size 79 4 encIm ov l ∧ l.length = i ∧ ∀ x ∈ l, Few w0 x, fun s _ => (61 - n0 s 1).toNat, ⟨_, 0, [], rfl, by omega, by omega, br w, Own.nil _ _ _ _ _, rfl, fun x hx => by simp at hx⟩, ?_⟩
  rintro s u ⟨ov, i, l, rfl, hi, hi6, hu, ho, hli, hf⟩
  have fin : ∀ {u : World} {ov : Value}, Bel w u → Own u w.heap.size 79 4 encIm ov l → R ov u := fun hu ho => hR _ _ l hu ho (by omega) hf
  simp [-newP_some, -storeW_ptr, -zero_79]
  refine ifD (fun h1 => ?_) (fun h1 => ?_)
  · obtain ⟨b, o, c2, ⟨off, ho', hsl⟩, hat⟩ := (hrd.bel (bt hb0 hu)).at (List.getElem?_eq_getElem h1)
    injection hsl with hsl _ _
    subst hsl
    have hm := List.getElem_mem h1
    have hkc := hc _ hm
    have hbs := h.key _ hm
    have hby := h.byte _ hm
    generalize ims[i] = x at hat hkc hbs hby
    obtain ⟨ka, kc, ⟨key, seq, kind, size⟩⟩ := x
    refine (idxR (T := 63) (k := 4) (by kernel_rfl) h1).2 ?_
    rw [← ho']
    simp [hat.cells0, encIm, -newP_some, -storeW_ptr, -zero_79]
    refine newL zero_79 fun q w1 b1 hq hq1 cq => ?_
    refine st79 cq ?_
    have cq1 : hp (upd w1 q (.cells #[.slice ka key.length kc, .int .u64 seq, .int .i64 kind, .int .i64 size] 79)) q = some (.cells #[.slice ka key.length kc, .int .u64 seq, .int .i64 kind, .int .i64 size] 79) := by simp [cq]
    have hu1 : Bel u (upd w1 q (.cells #[.slice ka key.length kc, .int .u64 seq, .int .i64 kind, .int .i64 size] 79)) := bu b1 hq _
    generalize upd w1 q (.cells #[.slice ka key.length kc, .int .u64 seq, .int .i64 kind, .int .i64 size] 79) = w2 at cq1 hu1 ⊢
    clear cq b1 hq1
    have ho2 := ho.bel hu1
    have hw2 := bt hu hu1
    dsimp only at hkc hbs hby
    refine ifD (fun h2 => ?_) (fun h2 => ?_)
    · exact fin hw2 ho2
    · simp [cq1, -newP_some, -storeW_ptr, -zero_79]
      have e1 : (0 : Int) ≤ (if (70 : Int) < key.length then 70 else (key.length : Int)) ∧ (if (70 : Int) < key.length then 70 else (key.length : Int)) ≤ kc ∧ (if (70 : Int) < key.length then 70 else (key.length : Int)).toNat = (key.take 70).length := by
        rw [List.length_take]; split <;> omega
      refine slice0 Try.underlying36 size_5 e1.1 e1.2.1 fun a' ha' => ?_
      rw [e1.2.2]
      refine stC (A := []) (c := [.slice ka key.length kc, .int .u64 seq, .int .i64 kind, .int .i64 size]) (j := 0) cq1 rfl (by simp) size_36 rfl rfl ?_
      have cq2 : hp (upd w2 q (.cells ([] ++ [Value.slice ka key.length kc, .int .u64 seq, .int .i64 kind, .int .i64 size].set 0 (.slice a' (key.take 70).length kc)).toArray 79)) q = some (.cells #[.slice a' (key.take 70).length kc, .int .u64 seq, .int .i64 kind, .int .i64 size] 79) := by simp [cq1]
      have hw3 : Bel w (upd w2 q (.cells ([] ++ [Value.slice ka key.length kc, .int .u64 seq, .int .i64 kind, .int .i64 size].set 0 (.slice a' (key.take 70).length kc)).toArray 79)) := bu hw2 (Nat.le_trans hu.size hq) _
      have ho3 : Own (upd w2 q (.cells ([] ++ [Value.slice ka key.length kc, .int .u64 seq, .int .i64 kind, .int .i64 size].set 0 (.slice a' (key.take 70).length kc)).toArray 79)) w.heap.size 79 4 encIm ov l := ho2.kept fun g hg => upd_ne _ _ _ _ (by rintro rfl; have := (ho.ge hg).2; omega)
      generalize upd w2 q (.cells ([] ++ [Value.slice ka key.length kc, .int .u64 seq, .int .i64 kind, .int .i64 size].set 0 (.slice a' (key.take 70).length kc)).toArray 79) = w4 at cq2 hw3 ho3 ⊢
      simp [cq2, -newP_some, -storeW_ptr, -zero_79, -List.length_take]
      have hx := bx' w4 [.cells #[.slice a' (key.take 70).length kc, .int .u64 seq, .int .i64 kind, .int .i64 size] 79]
      have g4 := hp_new w4 (.cells #[.slice a' (key.take 70).length kc, .int .u64 seq, .int .i64 kind, .int .i64 size] 79)
      have ho5 := ho3.bel hx
      have hw5 := bt hw3 hx
      generalize ext w4 [.cells #[.slice a' (key.take 70).length kc, .int .u64 seq, .int .i64 kind, .int .i64 size] 79] = w5 at g4 ho5 hw5 ⊢
      refine app row63 encIm_ok ho5 (x := ⟨a', kc, ⟨key.take 70, seq, kind, size⟩⟩) g4 rfl (by omega) (by simp only [maxLen]; omega) hw5.size fun v' w6 ho6 hg6 hv6 => ?_
      have hw6 := grown_bel hg6 hw5 fun g hg => (ho5.ge hg).1
      have e6 : IntKind.i64.wrap ((i : Int) + 1) = ((i + 1 : Nat) : Int) := i64_succ (by omega)
      rw [e6]
      refine ⟨⟨v', i + 1, ⟨rfl, rfl⟩, h1, by omega, hw6, _, ho6, by simp [hli], fun y hy => ?_⟩, by simp [n0]; omega⟩
      rw [List.mem_append, List.mem_singleton] at hy
      rcases hy with hy | rfl
      · exact hf y hy
      · refine ⟨by simp; omega, fun c hc => hby c (List.mem_of_mem_take hc), fun hn => ?_⟩
        have hn' : key ≠ [] := by rintro rfl; exact hn (by simp)
        have h5 := hbs hn'
        obtain ⟨b', o', c', e, _⟩ := h5
        have e' := e
        injection e' with e1 _ _
        have := ha' b' o' e1
        subst this
        exact bs_take (hbs hn') 70 a' kc rfl
  · exact fin hu ho
end Go.Proofs.Ytbcmoikpmmjlkaa
