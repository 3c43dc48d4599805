/- Law 18: what knows and LinkHeads answer. -/
import Derived.Test.YtbcmoikpmmjlkaaR
namespace Go.Proofs.Ytbcmoikpmmjlkaa
open Go Eng
set_option maxRecDepth 100000

theorem conv_lit {w : World} {b o n c : Nat} {cs : Array Value} {E : TypeId} (h : hp w b = some (.cells cs E (0, 0))) {K : Value → World → Prop}
    (hK : ∀ fr, K (.slice (some ⟨b, o, none⟩) n c) (upd w b (.cells cs E fr))) : S Pg (convert 36 36 (.slice (some ⟨b, o, none⟩) n c)) w K := by
  have hh : w.heap[b]? = some (.cells cs E (0, 0)) := h
  have hsh : w.shape? b = some (E, cs.size) := by simp [World.shape?, hh]
  have hf : ∃ fr, w.freeze ⟨b, cs.size, none⟩ 1 = upd w b (.cells cs E fr) := by
    refine ⟨(cs.size, cs.size + 1), ?_⟩
    unfold World.freeze upd
    rw [if_neg (by decide)]
    congr 1
    apply Array.ext_getElem?
    intro i
    rw [Array.getElem?_modify]
    by_cases hi : b = i
    · subst hi
      have := hp_lt h
      simp [hh]
      rw [Array.getElem?_setIfInBounds_self, if_pos this]
    · simp [hi]
  obtain ⟨fr, hf⟩ := hf
  refine (S_of (w' := upd w b (.cells cs E fr)) ?_).2 (hK fr)
  rw [← hf]
  simp [convert, run_und Try.underlying36, run_und Try.underlying5, markStringish, hsh, Result.andThen]
theorem prOf_one (c : Nat) : prOf [c] = ⟨1, c, 0, 0, 0, 0, 0, 0, 0⟩ := by simp [prOf, chunk, leW]
@[simp] theorem build_137 (a b : Option Addr) (K : Value → Prop) : pureP Pg (Instr.build 137 #[(0, .pointer a), (1, .pointer b)]) K ↔ K (.agg #[.pointer a, .pointer b]) := pureP_of fun w => by simp [go_sem, Instr.build, Instr.fill]
@[simp] theorem index_137 (a b : Option Addr) (i : Nat) (h : i < 2) (K : Value → Prop) : pureP Pg (Instr.index 137 (.agg #[.pointer a, .pointer b]) (.int .i64 (i : Nat))) K ↔ K (.pointer (if i = 0 then a else b)) := pureP_of fun w => by
  have : i = 0 ∨ i = 1 := by omega
  rcases this with rfl | rfl <;> simp [go_sem, Instr.index]
def H3 : List (Pr × Hd) := put (prOf [97]) ⟨1, 90, 3, 1⟩ (put (prOf [98]) ⟨1, 50, 2, 1⟩ (put (prOf [97]) ⟨1, 16, 1, 1⟩ []))
def A3 : List ((Int × Int) × (Int × Int)) := put (1, 90) (1, 16) (put (1, 50) (0, 0) (put (1, 16) (0, 0) []))
def Lk.Empty (L : Lk) : Prop := L.heads = [] ∧ L.ahead = [] ∧ L.wrong = [] ∧ L.last = 0
def Lk.Full (L : Lk) (p : Int × Int) : Prop := L.heads = H3 ∧ L.ahead = A3 ∧ L.wrong = if p = (1, 16) then [] else [(1, 90)]
def KInv (w0 : World) (px py Bx By : Nat) (i : Nat) (w : World) : Prop :=
  ∃ Lx Ly, Bel w0 w ∧ LkOk w Bx Lx ∧ LkOk w By Ly ∧ w0.heap.size ≤ Bx ∧ w0.heap.size ≤ By ∧ Lx.p = px ∧ Ly.p = py ∧ (∀ b, Lx.foot b → ¬ Ly.foot b) ∧ (if i = 0 then Lx.Empty else Lx.Full (1, 16)) ∧ (if i ≤ 1 then Ly.Empty else Ly.Full (0, 0))
theorem s16 {w : World} {R : Value → World → Prop} (hR : ∀ w', Bel w w' → R (.bool true) w') : F16 w R := by
  unfold F16
  refine c11 (s11 fun w1 px hx ax hb1 hLx => ?_)
  refine c11 (s11 fun w2 py hy ay hb2 hLy => ?_)
  simp
  refine ⟨fun s u => ∃ i : Nat, s = [.int .i64 (i : Nat)] ∧ i ≤ 2 ∧ KInv w px py w.heap.size w1.heap.size i u, fun s _ => (3 - n0 s 0).toNat, ⟨0, rfl, by omega, _, _, bt hb1 hb2, hLx.bel hb2, hLy, Nat.le_refl _, hb1.size, rfl, rfl, ?_, ⟨rfl, rfl, rfl, rfl⟩, ⟨rfl, rfl, rfl, rfl⟩⟩, ?_⟩
  · intro b h1 h2
    have := (hLx.low b h1).2
    have := (hLy.low b h2).1
    omega
  rintro s u ⟨i, rfl, hi, Lx, Ly, hB, kx, ky, hBx, hBy, ex, ey, hdis, hfx, hfy⟩
  simp
  refine ifD (fun h1 => ?_) (fun h1 => ?_)
  · have hi2 : i < 2 := by omega
    rw [index_137 _ _ i hi2]
    have e6 : IntKind.i64.wrap ((i : Int) + 1) = ((i + 1 : Nat) : Int) := wrap_i64 (by omega) (by omega)
    obtain ⟨zp, L, Bz, ps, po, hz, hL, hBz, hLp, hLe, hpp, hstep⟩ : ∃ zp L Bz ps po, (if i = 0 then some (⟨px, 0, none⟩ : Addr) else some ⟨py, 0, none⟩) = some ⟨zp, 0, none⟩ ∧ LkOk u Bz L ∧ Bz ≤ u.heap.size ∧ L.p = zp ∧ L.Empty ∧ ((i = 0 ∧ ps = 1 ∧ po = 16) ∨ (i ≠ 0 ∧ ps = 0 ∧ po = (0 : Int))) ∧
        (∀ w' L', LkOk w' Bz L' → L'.p = zp → L'.Full (ps, po) → Fr L.foot u w' → (∀ b, L'.foot b → L.foot b ∨ u.heap.size ≤ b) → KInv w px py w.heap.size w1.heap.size (i + 1) w') := by
      have := hB.size
      have hi01 : i = 0 ∨ i = 1 := by omega
      rcases hi01 with rfl | rfl
      · refine ⟨px, Lx, _, 1, 16, rfl, kx, by omega, ex, by simpa using hfx, .inl ⟨rfl, rfl, rfl⟩, fun w' L' k1 k2 k3 k4 k5 => ?_⟩
        refine ⟨L', Ly, k4.below hB fun b hb => (kx.low b hb).1, k1, ky.keep k4 fun b hb hb2 => hdis b hb2 hb, Nat.le_refl _, hBy, k2, ey, ?_, by simpa using k3, by simpa using hfy⟩
        intro b hb hb2
        rcases k5 b hb with h | h
        · exact hdis b h hb2
        · have := (ky.low b hb2).2; omega
      · refine ⟨py, Ly, _, 0, 0, rfl, ky, by have := (ky.low _ (.inl rfl)); omega, ey, by simpa using hfy, .inr ⟨by decide, rfl, rfl⟩, fun w' L' k1 k2 k3 k4 k5 => ?_⟩
        refine ⟨Lx, L', k4.below hB fun b hb => Nat.le_trans hBy (ky.low b hb).1, kx.keep k4 fun b hb hb2 => hdis b hb hb2, k1, Nat.le_refl _, hBy, ex, k2, ?_, by simpa using hfx, by simpa using k3⟩
        intro b hb hb2
        rcases k5 b hb2 with h | h
        · exact hdis b hb h
        · have := (kx.low b hb).2; omega
    rw [hz]
    subst hLp
    have hw1 := bx' u [.cells #[.int .u32 0, .int .u32 0] 34]
    have gt := hp_new u (.cells #[.int .u32 0, .int .u32 0] 34)
    generalize ext u [.cells #[.int .u32 0, .int .u32 0] 34] = u1 at hw1 gt ⊢
    refine join_of fun J hJ => ?_
    have key : ∀ v, Bel u v → hp v u.heap.size = some (.cells #[.int .u32 ps, .int .u32 po] 34) → J [] v := by
      intro v hv gt
      refine hJ _ _ ?_
      have hlow := hL.low
      rw [show (⟨#[97]⟩ : ByteArray) = strOf [97] from rfl, show (⟨#[98]⟩ : ByteArray) = strOf [98] from rfl]
      obtain ⟨he1, he2, he3, he4⟩ := hLe
      refine c44 (s44 (by intro x hx; simp at hx; omega) fun v1 kb1 kc1 b1 _ k1 _ => ?_)
      have hL1 := (hL.bel hv).bel b1
      refine c12 (s12 hL1 k1 (by intro x hx; simp at hx; omega) (by decide) (by decide) (.inl rfl) (by decide) (by rw [he4]; decide) (by decide) (by decide) (by rw [he2]; rfl) (by have := hv.size; have := b1.size; omega) (by rw [he3]; decide) fun v2 L2 hL2 p2 q2 a2 r2 l2 f2 t2 => ?_)
      have hbf2 : bef L [97] = (0, 0) := by unfold bef; rw [he1]; rfl
      rw [he1] at q2
      rw [hbf2, he2] at a2
      rw [hbf2, if_pos rfl, he3] at r2
      simp
      have F2 : Fr L.foot u v2 := ((Fr.of_bel hv).bel b1).then f2 fun _ _ h => h
      have T2 : ∀ b, L2.foot b → L.foot b ∨ u.heap.size ≤ b := fun b hb => (t2 b hb).imp id fun h => by have := hv.size; have := b1.size; omega
      have gt2 : hp v2 u.heap.size = some (.cells #[.int .u32 ps, .int .u32 po] 34) := f2.get (bg b1 gt) fun h => by have := (hlow _ h).2; omega
      refine c44 (s44 (by intro x hx; simp at hx; omega) fun v3 kb3 kc3 b3 _ k3 _ => ?_)
      have hL3 := hL2.bel b3
      rw [← p2]
      have hBz3 : Bz ≤ v3.heap.size := by have := F2.size; have := b3.size; omega
      refine c12 (s12 hL3 k3 (by intro x hx; simp at hx; omega) (by decide) (by decide) (.inl rfl) (by decide) (by rw [l2]; decide) (by decide) (by decide) (by rw [a2]; rfl) hBz3 (by rw [r2]; decide) fun v4 L4 hL4 p4 q4 a4 r4 l4 f4 t4 => ?_)
      have hbf4 : bef L2 [98] = (0, 0) := by
        unfold bef; rw [q2, prOf_one, prOf_one]; rfl
      rw [q2] at q4
      rw [hbf4, a2] at a4
      rw [hbf4, if_pos rfl, r2] at r4
      have F4 : Fr L.foot u v4 := (F2.bel b3).then f4 fun b hb h => (T2 b h).elim id fun h => by omega
      have T4 : ∀ b, L4.foot b → L.foot b ∨ u.heap.size ≤ b := fun b hb => (t4 b hb).elim (T2 b) fun h => .inr (by have := F2.size; have := b3.size; omega)
      have hlow2 := hL2.low
      have hnt : ¬ L2.foot u.heap.size := fun h => by
        rcases t2 _ h with h | h
        · have := (hlow _ h).2; omega
        · have := hp_lt gt; have := b1.size; omega
      have gt4 : hp v4 u.heap.size = some (.cells #[.int .u32 ps, .int .u32 po] 34) := f4.get (bg b3 gt2) hnt
      simp [gt4]
      refine c44 (s44 (by intro x hx; simp at hx; omega) fun v5 kb5 kc5 b5 _ k5 _ => ?_)
      have hL5 := hL4.bel b5
      rw [← p4]
      have hBz5 : Bz ≤ v5.heap.size := by have := F4.size; have := b5.size; omega
      have hpl : locMay ps po = true := by rcases hpp with ⟨_, rfl, rfl⟩ | ⟨_, rfl, rfl⟩ <;> decide
      refine c12 (s12 hL5 k5 (by intro x hx; simp at hx; omega) (by decide) (by decide) (.inl rfl) (by decide) (by rw [l4]; decide) hpl (by decide) (by rw [a4]; rfl) hBz5 (by rw [r4]; decide) fun v6 L6 hL6 p6 q6 a6 r6 l6 f6 t6 => ?_)
      have hbf6 : bef L4 [97] = (1, 16) := by
        unfold bef; rw [q4, prOf_one, prOf_one]; rfl
      rw [q4] at q6
      rw [hbf6, a4] at a6
      rw [hbf6, r4] at r6
      have F6 : Fr L.foot u v6 := (F4.bel b5).then f6 fun b hb h => (T4 b h).elim id fun h => by omega
      have T6 : ∀ b, L6.foot b → L.foot b ∨ u.heap.size ≤ b := fun b hb => (t6 b hb).elim (T4 b) fun h => .inr (by have := F4.size; have := b5.size; omega)
      simp
      refine ⟨⟨i + 1, e6, by omega, hstep v6 L6 hL6 (by rw [p6, p4, p2]) ⟨q6, a6, ?_⟩ F6 T6⟩, ?_⟩
      · rw [r6]
        rcases hpp with ⟨_, rfl, rfl⟩ | ⟨_, rfl, rfl⟩ <;> rfl
      · rw [e6]
        simp [n0]
        omega
    rcases hpp with ⟨hi0, rfl, rfl⟩ | ⟨hi0, rfl, rfl⟩
    · simp [hi0]
      refine c52 (s52 fun v b1 => ?_)
      have gv := bg b1 gt
      simp [gv]
      exact key _ (bu (bt hw1 b1) (Nat.le_refl _) _) (by simp [gv])
    · simp [hi0]
      exact key _ hw1 gt
  · have hi2 : i = 2 := by omega
    subst hi2
    have hfx : Lx.Full (1, 16) := by simpa using hfx
    have hfy : Ly.Full (0, 0) := by simpa using hfy
    obtain ⟨qx, ax, rx⟩ := hfx
    obtain ⟨qy, ay, ry⟩ := hfy
    refine conv_lit (hp_new u _) fun fr => ?_
    have hb0 : Bel u (upd (ext u [.cells #[.int .u8 97] 5]) u.heap.size (.cells #[.int .u8 97] 5 fr)) := bu (bx' u _) (Nat.le_refl _) _
    have hbs : Bs (upd (ext u [.cells #[.int .u8 97] 5]) u.heap.size (.cells #[.int .u8 97] 5 fr)) (.slice (some ⟨u.heap.size, 0, none⟩) 1 1) [97] := ⟨_, _, _, rfl, by simp, At.of (cs := #[.int .u8 97]) (E := 5) (fr := fr) (by rw [upd_same, hp_new]; rfl)⟩
    generalize upd (ext u [.cells #[.int .u8 97] 5]) u.heap.size (.cells #[.int .u8 97] 5 fr) = v0 at hb0 hbs ⊢
    have kx0 := kx.bel hb0
    have ky0 := ky.bel hb0
    subst ex
    refine c13 (s13 kx0 hbs (by intro x hx; simp at hx; omega) (by decide) (by decide) fun v1 b1 => ?_)
    have hlk : look (prOf [97]) Lx.heads = some ⟨1, 90, 3, 1⟩ := by rw [qx, prOf_one]; rfl
    rw [hlk]
    simp [evH]
    have hx1 := bx' v1 [.cells #[.int .u32 1, .int .u32 90, .int .u64 3, .int .i64 1] 42]
    have gh := hp_new v1 (.cells #[.int .u32 1, .int .u32 90, .int .u64 3, .int .i64 1] 42)
    have b01 := bt (bt hb0 b1) hx1
    generalize ext v1 [.cells #[.int .u32 1, .int .u32 90, .int .u64 3, .int .i64 1] 42] = v2 at hx1 gh b01 ⊢
    refine c52 (s52 fun v3 b3 => ?_)
    have gh := bg b3 gh
    have b03 := bt b01 b3
    refine c17 (s17 (kx.bel b03) fun v4 b4 => ?_)
    have gh := bg b4 gh
    have b04 := bt b03 b4
    have hla : look (1, 90) Lx.ahead = some (1, 16) := by rw [ax]; rfl
    rw [hla]
    simp [ekL]
    have hx5 := bx' v4 [.cells #[.int .u32 1, .int .u32 16] 34]
    have gl := hp_new v4 (.cells #[.int .u32 1, .int .u32 16] 34)
    have gh := bg hx5 gh
    have b05 := bt b04 hx5
    generalize ext v4 [.cells #[.int .u32 1, .int .u32 16] 34] = v5 at gl gh b05 ⊢
    subst ey
    refine c15 (s15 (ky.bel b05) (by rw [ry]; decide) fun wv v6 b6 ho6 => ?_)
    have gh := bg b6 gh
    have gl := bg b6 gl
    have b06 := bt b05 b6
    have hwr : Ly.wrong = [(1, 90)] := by rw [ry]; rfl
    rw [hwr] at ho6
    have hrd := ho6.rd encL_ok
    obtain ⟨bw, ow, cw, ⟨offw, how, hwv⟩, hatw⟩ := hrd.at (i := 0) (x := (1, 90)) rfl
    have how' : ow = offw := by omega
    subst how'
    subst hwv
    have hd := bd (br v6)
    refine drawn' (St0 := Bel v6) hd fun St hS => ?_
    have hSu := (hS v6.drew).2 hd
    simp [readP_iff (fun a ha => bg ((hS a).1 ha) gh) hSu]
    refine c52 (s52 fun v7 b7 => ⟨(hS _).2 (bt hd b7), ?_⟩)
    simp [readP_iff (fun a ha => bg ((hS a).1 ha) gl) hSu]
    refine c52 (s52 fun v8 b8 => ⟨(hS _).2 (bt (bt hd b7) b8), ?_⟩)
    have b68 := bt (bt hd b7) b8
    have b08 := bt b06 b68
    simp
    refine c15 (s15 (kx.bel b08) (by rw [rx]; decide) fun xv v9 b9 ho9 => ⟨(hS _).2 (bt b68 b9), ?_⟩)
    have hwx : Lx.wrong = [] := by rw [rx]; rfl
    rw [hwx] at ho9
    obtain ⟨xa, xc, hxv⟩ := (ho9.rd encL_ok).form
    subst hxv
    simp
    have hload : ∀ a, St a → loadW Pg 34 (.pointer (some ⟨bw, ow, none⟩)) a = some (.agg #[.int .u32 1, .int .u32 90]) := fun a ha => by
      have := (hatw.bel ((hS a).1 ha)).cells0 2 (by decide) (by decide)
      simp only [loadW_ptr, shape_34, ldSh_agg, this]
      rfl
    refine ⟨_, hload, ?_⟩
    refine c52 (s52 fun v10 b10 => ⟨(hS _).2 (bt (bt b68 b9) b10), ?_⟩)
    simp
    exact hR _ (bt (bt hB b08) (bt b9 b10))
end Go.Proofs.Ytbcmoikpmmjlkaa
