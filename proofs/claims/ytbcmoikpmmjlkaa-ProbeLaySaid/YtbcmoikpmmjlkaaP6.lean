/- Plans: plan.Of$1, which lays an item. -/
import Derived.Test.YtbcmoikpmmjlkaaP5
namespace Go.Proofs.Ytbcmoikpmmjlkaa
open Go Eng
set_option maxRecDepth 100000
structure PSok (n : Nat) (first : Int) (s : PS) : Prop where
  len : s.seals.length ≤ n
  steps : s.steps.length = n
  sl : ∀ l ∈ s.seals, 16 ≤ l.size ∧ l.size ≤ 16777216 ∧ 0 ≤ l.many ∧ l.many ≤ n ∧ first ≤ l.id ∧ l.id ≤ first + n
theorem opened_ok {n : Nat} {limit first : Int} {s : PS} (h : PSok n first s) (x : Itm) : (opened limit first s.seals x).1.length ≤ n ∧ (∀ l ∈ (opened limit first s.seals x).1, l ∈ s.seals) ∧
    16 ≤ (opened limit first s.seals x).2.size ∧ (opened limit first s.seals x).2.size ≤ 16777216 ∧ 0 ≤ (opened limit first s.seals x).2.many ∧ (opened limit first s.seals x).2.many ≤ n ∧ first ≤ (opened limit first s.seals x).2.id ∧ (opened limit first s.seals x).2.id ≤ first + n ∧
    ((opened limit first s.seals x).2.size + x.size ≤ limit ∨ (opened limit first s.seals x).2.size = 16) := by
  unfold opened
  have hl := h.len
  cases e : s.seals.getLast? with
  | none => simp; omega
  | some l =>
    have hm := h.sl l (List.mem_of_getLast? e)
    by_cases h2 : limit < l.size + x.size
    · simp only [h2, if_true]
      refine ⟨hl, fun y hy => hy, ?_⟩
      simp; omega
    · simp only [h2, if_false]
      refine ⟨by rw [List.length_dropLast]; omega, fun y hy => (List.dropLast_sublist _).mem hy, ?_⟩
      omega
theorem PSok.lay {n : Nat} {limit first : Int} {s : PS} (h : PSok n first s) {i : Nat} {x : Itm} (hx : 25 ≤ x.size ∧ x.size ≤ 1113) (hli : limit ≤ 16777216) : PSok (n + 1) first (layP limit first s i x) := by
  obtain ⟨h1, h2, h3, h4, h5, h6, h7, h8, h9⟩ := opened_ok (limit := limit) h x
  refine ⟨by simp [layP]; omega, by simp [layP, h.steps], ?_⟩
  intro l hl
  simp only [layP, List.mem_append, List.mem_singleton] at hl
  rcases hl with hl | rfl
  · have := h.sl l (h2 l hl); omega
  · simp; omega
theorem st79 {w : World} {q : Nat} {a : Option Addr} {n c : Nat} {x y z : Int} (h : hp w q = some (.cells #[.slice none 0 0, .int .u64 0, .int .i64 0, .int .i64 0] 79)) {K : World → Prop} (hK : K (upd w q (.cells #[.slice a n c, .int .u64 x, .int .i64 y, .int .i64 z] 79))) : getU (storeW Pg 79 (.pointer (some ⟨q, 0, none⟩)) (.agg #[.slice a n c, .int .u64 x, .int .i64 y, .int .i64 z]) w) K := by
  simp [h]; exact hK
theorem stC {T : TypeId} {w : World} {g o j : Nat} {E : TypeId} {A c : List Value} {u : Value} (hg : hp w g = some (.cells (A ++ c).toArray E (0, 0))) (ho : o = A.length + j) (hj : j < c.length) (hT : sizeT Pg T = some 1) (hu : u.cells = #[u]) (hf : flatV u = true) {K : World → Prop}
    (hK : K (upd w g (.cells (A ++ c.set j u).toArray E))) : getU (storeW Pg T (.pointer (some ⟨g, o, none⟩)) u w) K := by
  subst ho
  have h1 : A.length + j + 1 ≤ A.length + c.length := by omega
  simp [hg, hT, hu, hf, h1]
  exact hK
theorem ldC {w : World} {g o j : Nat} {E : TypeId} {fr : Nat × Nat} {A c : List Value} (hg : hp w g = some (.cells (A ++ c).toArray E fr)) (ho : o = A.length + j) : cellOf (hp w g) o = c[j]? := by
  subst ho
  rw [hg, cellOf_cells, List.getElem?_toArray, List.getElem?_append_right (by omega)]
  congr 1
  omega
/-- plan.Of$1. -/
theorem s58 {w0 w : World} (hB : Bel w0 w) {q mp tl t6 t7 ta : Nat} {limit first : Int} {v sv lv : Value} {ims : List Im} {s : PS} {n : Nat} (hI : Items w0 v ims) (c4 : hp w tl = some (.cells #[v] 63)) (c6 : hp w t6 = some (.cells #[.int .i64 limit] 3)) (c7 : hp w t7 = some (.cells #[.int .u32 first] 32)) (ca : hp w ta = some (.cells #[.map (some mp)] 147))
    (M : PlM w w0.heap.size q mp sv lv s) (hok : PSok n first s) (hn : n ≤ 100000) (hf : 1 ≤ first ∧ first ≤ 16777215) (hli : 4096 ≤ limit ∧ limit ≤ 16777216) {i : Nat} {x : Im} (hi : ims[i]? = some x) (hxk : 1 ≤ x.it.key.length ∧ x.it.key.length ≤ 64) (hxs : 25 ≤ x.it.size ∧ x.it.size ≤ 1113)
    {R : Value → World → Prop} (hR : ∀ w' sv' lv', Bel w0 w' → TF q w w' → PlM w' w0.heap.size q mp sv' lv' (layP limit first s i x.it) → R (.tuple #[]) w') :
    F58 (.int .i64 (i : Nat)) (.pointer (some ⟨tl, 0, none⟩)) (.pointer (some ⟨q, 0, none⟩)) (.pointer (some ⟨t6, 0, none⟩)) (.pointer (some ⟨t7, 0, none⟩)) (.pointer (some ⟨ta, 0, none⟩)) w R := by
  have hiL := (List.getElem?_eq_some_iff.1 hi).1
  have hxm := List.mem_of_getElem? hi
  have hbs := hI.key x hxm (by intro e; rw [e] at hxk; simp at hxk)
  have hby := hI.byte x hxm
  obtain ⟨va, vc, rfl⟩ := hI.rd.form
  unfold F58
  simp [c4, -newP_some, -storeW_ptr, -zero_34, -zero_133, -zero_79]
  obtain ⟨b, o, c2, ⟨off, ho, hsl⟩, hat⟩ := (hI.rd.bel hB).at hi
  injection hsl with hsl _ _
  subst hsl
  rw [idxR (T := 63) (k := 4) (by kernel_rfl) hiL, ← ho]
  obtain ⟨ka, kc, ⟨key, seq, kind, size⟩⟩ := x
  dsimp only [Im.kv] at hbs hby hxk hxs hR
  simp [hat.cells0, encIm, -newP_some, -storeW_ptr, -zero_34, -zero_133, -zero_79]
  refine newL zero_79 fun rb u b1 hle hlt r7 => ?_
  refine st79 r7 ?_
  have hx1 := bu b1 hle (.cells #[.slice ka key.length kc, .int .u64 seq, .int .i64 kind, .int .i64 size] 79)
  have r7 : hp (upd u rb (.cells #[.slice ka key.length kc, .int .u64 seq, .int .i64 kind, .int .i64 size] 79)) rb = some (.cells #[.slice ka key.length kc, .int .u64 seq, .int .i64 kind, .int .i64 size] 79) := by simp [r7]
  have M1 := M.bel hx1
  have hB1 := bt hB hx1
  have c6 := bg hx1 c6
  have c7 := bg hx1 c7
  have ca := bg hx1 ca
  have tf1 := TF.bel (q := q) hx1
  clear b1 hlt
  generalize upd u rb (.cells #[.slice ka key.length kc, .int .u64 seq, .int .i64 kind, .int .i64 size] 79) = w1 at hx1 r7 M1 hB1 c6 c7 ca tf1 ⊢
  simp [M1.cell, -newP_some, -storeW_ptr, -zero_34, -zero_133, -zero_79]
  have hlr := M1.sl.rd encSl_ok
  obtain ⟨la, lc, hlf⟩ := hlr.form
  rw [hlf]
  refine (len_68 _ _ _ _ _).2 ?_
  refine join_of fun J4 hJ4 => ?_
  have key4 : ∀ w3 lv3, Bel w0 w3 → TF q w1 w3 → PlM w3 w0.heap.size q mp sv lv3 { s with seals := (opened limit first s.seals ⟨key, seq, kind, size⟩).1 ++ [(opened limit first s.seals ⟨key, seq, kind, size⟩).2] } → J4 [.int .i64 (((opened limit first s.seals ⟨key, seq, kind, size⟩).1.length + 1 : Nat) : Int)] w3 := by
    obtain ⟨o1, o2, o3, o4, o5, o6, o7, o8, o9⟩ := opened_ok (limit := limit) hok ⟨key, seq, kind, size⟩
    unfold layP at hR
    generalize (opened limit first s.seals ⟨key, seq, kind, size⟩).1 = ini at o1 o2 hR ⊢
    generalize (opened limit first s.seals ⟨key, seq, kind, size⟩).2 = sl at o3 o4 o5 o6 o7 o8 o9 hR ⊢
    intro w3 lv3 hB3 tf3 M3
    refine hJ4 _ _ ?_
    have r7 := tf3.keep _ _ r7 (by simp [otherT])
    have ca := tf3.keep _ _ ca (by simp [otherT])
    have tf3 := tf1.trans tf3
    clear hJ4 c6 c7 tf1 hx1 M1 hlr hlf
    obtain ⟨g, cap, rest, rfl, hg, hfl, hBg, hfin⟩ := M3.sl.last encSl_ok
    have e1 : IntKind.i64.wrap (ini.length : Int) = (ini.length : Int) := i64_nat (by omega)
    simp [M3.cell, e1, -newP_some, -storeW_ptr, -zero_34, -zero_133, -zero_79]
    refine (idxR (T := 68) (k := 5) (by kernel_rfl) (i := ini.length) (Nat.lt_succ_self _)).2 ?_
    refine join_of fun J14 hJ14 => ?_
    have key14 : ∀ x q1 q2, Bel w3 x → hp x q1 = some (.cells #[.int .u32 sl.id, .int .u32 sl.size] 34) → hp x q2 = some (.cells #[.int .u8 (prOf key).n, .int .u64 (prOf key).a, .int .u64 (prOf key).b, .int .u64 (prOf key).c, .int .u64 (prOf key).d, .int .u64 (prOf key).e, .int .u64 (prOf key).f, .int .u64 (prOf key).g, .int .u64 (prOf key).h] 133) → J14 [.pointer (some ⟨q1, 0, none⟩), .pointer (some ⟨q2, 0, none⟩)] x := by
      intro x q1 q2 hx h1 h2
      refine hJ14 _ _ ?_
      have Mx := M3.bel hx
      have cax := bg hx ca
      have r7x := bg hx r7
      have hgx := bg hx hg
      have hBx := bt hB3 hx
      have tfx := tf3.trans (TF.bel hx)
      simp [-newP_some, -storeW_ptr, -zero_34, -zero_133, -zero_79]
      refine drawn' (St0 := fun a => hp a q = some (.cells #[sv, .slice (some ⟨g, 0, none⟩) (ini.length + 1) cap] 70) ∧ hp a q1 = some (.cells #[.int .u32 sl.id, .int .u32 sl.size] 34) ∧ hp a q2 = some (.cells #[.int .u8 (prOf key).n, .int .u64 (prOf key).a, .int .u64 (prOf key).b, .int .u64 (prOf key).c, .int .u64 (prOf key).d, .int .u64 (prOf key).e, .int .u64 (prOf key).f, .int .u64 (prOf key).g, .int .u64 (prOf key).h] 133) ∧ hp a ta = some (.cells #[.map (some mp)] 147) ∧ Mp a mp ekP ekL s.ahead) ⟨Mx.cell, h1, h2, cax, Mx.am⟩ fun St hS => ?_
      have hSu := (hS x.drew).2 ⟨Mx.cell, h1, h2, cax, Mx.am⟩
      rw [readP_iff (fun a ha => ((hS a).1 ha).1) hSu]
      simp [-newP_some, -storeW_ptr, -zero_34, -zero_133, -zero_79]
      rw [readP_iff (fun a ha => ((hS a).1 ha).2.1) hSu]
      simp [-newP_some, -storeW_ptr, -zero_34, -zero_133, -zero_79]
      rw [readP_iff (fun a ha => ((hS a).1 ha).2.2.2.1) hSu]
      simp [-newP_some, -storeW_ptr, -zero_34, -zero_133, -zero_79]
      rw [readP_iff (fun a ha => ((hS a).1 ha).2.2.1) hSu]
      simp [-newP_some, -storeW_ptr, -zero_34, -zero_133, -zero_79]
      refine readP_run (fun a ha => run_look (k := prOf key) (z := ((0 : Int), (0 : Int))) keyP Try.underlying147 zero_34 ((hS a).1 ha).2.2.2.2 false) ?_
      simp [ekL, -newP_some, -storeW_ptr, -zero_34, -zero_133, -zero_79]
      have hxy : Bel x (ext x.drew [.cells #[.int .i64 (i : Nat), .int .u32 sl.id, .int .u32 sl.size, .int .u32 ((look (prOf key) s.ahead).getD (0, 0)).1, .int .u32 ((look (prOf key) s.ahead).getD (0, 0)).2] 75]) := bx (bd (br x)) _
      have gst := hp_ext_at (w := x.drew) (L := [.cells #[.int .i64 (i : Nat), .int .u32 sl.id, .int .u32 sl.size, .int .u32 ((look (prOf key) s.ahead).getD (0, 0)).1, .int .u32 ((look (prOf key) s.ahead).getD (0, 0)).2] 75]) (i := 0) rfl
      rw [Nat.add_zero, show x.drew.heap.size = x.heap.size from rfl] at gst
      generalize ext x.drew [.cells #[.int .i64 (i : Nat), .int .u32 sl.id, .int .u32 sl.size, .int .u32 ((look (prOf key) s.ahead).getD (0, 0)).1, .int .u32 ((look (prOf key) s.ahead).getD (0, 0)).2] 75] = y0 at hxy gst ⊢
      have M0 := Mx.bel hxy
      have h1 := bg hxy h1
      have h2 := bg hxy h2
      have cax := bg hxy cax
      have r7x := bg hxy r7x
      have hgx := bg hxy hgx
      have hB0 := bt hBx hxy
      have tf0 := tfx.trans (TF.bel hxy)
      refine ⟨(hS _).2 ⟨M0.cell, h1, h2, cax, M0.am⟩, ?_⟩
      have hst := M0.st
      have hsn := hok.steps
      dsimp only at hst
      refine app row67 encSp_ok hst (x := ⟨i, (sl.id, sl.size), (look (prOf key) s.ahead).getD (0, 0)⟩) gst rfl (by omega) (by simp only [maxLen]; omega) hB0.size fun v' y1 ho' hg' hv' => ?_
      obtain ⟨es, cl, hmap, _⟩ := id M0.am
      have nq : some q ≠ sv.ownBlock := hst.ne M0.cell (by intro cur e; injection e with _ e; cases e)
      have ng : some g ≠ sv.ownBlock := hst.ne hgx (by intro cur e; injection e with _ e; cases e)
      have nm : some mp ≠ sv.ownBlock := hst.ne hmap (by intro cur e; cases e)
      have tf1' := TF.grown (q := q) hst hg' (.inl rfl)
      have q1c := grown_hp hg' M0.cell nq
      have hg1 := grown_hp hg' hgx ng
      have hmap1 := grown_hp hg' hmap nm
      have am1 := M0.am.keep (hg'.block _ M0.am.lt nm)
      have hB1' : Bel w0 y1 := grown_bel hg' hB0 fun g hg => (hst.ge hg).1
      have tf1'' := tf0.trans tf1'
      refine ⟨(hS _).2 ⟨q1c, tf1'.keep _ _ h1 (by simp [otherT]), tf1'.keep _ _ h2 (by simp [otherT]), tf1'.keep _ _ cax (by simp [otherT]), am1⟩, ?_⟩
      obtain ⟨va', vc', hvf'⟩ := (ho'.rd encSp_ok).form
      have hcv : v'.cells = #[v'] ∧ flatV v' = true := by rw [hvf']; exact ⟨rfl, rfl⟩
      have nv : ∀ {b : Nat} {o : Obj}, hp y1 b = some o → (∀ cur, o ≠ .cells cur 75 (0, 0)) → v'.ownBlock ≠ some b := fun hb hh e => ho'.ne hb hh e.symm
      have nvq := nv q1c (by intro cur e; injection e with _ e; cases e)
      have nvg := nv hg1 (by intro cur e; injection e with _ e; cases e)
      have nvm := nv hmap1 (by intro cur e; cases e)
      have hqg : g ≠ q := by rintro rfl; rw [hg1] at q1c; injection q1c with q1c; injection q1c with _ q1c; cases q1c
      have hqm : mp ≠ q := by rintro rfl; rw [hmap1] at q1c; cases q1c
      have hgm : mp ≠ g := by rintro rfl; rw [hmap1] at hg1; cases hg1
      refine stC (A := []) (c := [sv, .slice (some ⟨g, 0, none⟩) (ini.length + 1) cap]) (j := 0) q1c rfl (by simp) size_67 hcv.1 hcv.2 ?_
      have tf2 := tf1''.trans (TF.upd q1c (by simp [otherT]) (.inl rfl) (.cells ([] ++ [sv, .slice (some ⟨g, 0, none⟩) (ini.length + 1) cap].set 0 v').toArray 70))
      have tf2' := tf1'.trans (TF.upd q1c (by simp [otherT]) (.inl rfl) (.cells ([] ++ [sv, .slice (some ⟨g, 0, none⟩) (ini.length + 1) cap].set 0 v').toArray 70))
      have q2c : hp (upd y1 q (.cells ([] ++ [sv, .slice (some ⟨g, 0, none⟩) (ini.length + 1) cap].set 0 v').toArray 70)) q = some (.cells #[v', .slice (some ⟨g, 0, none⟩) (ini.length + 1) cap] 70) := by simp [q1c]
      have hg2 := (upd_ne y1 q g (.cells ([] ++ [sv, .slice (some ⟨g, 0, none⟩) (ini.length + 1) cap].set 0 v').toArray 70) hqg).trans hg1
      have ho2 : Own (upd y1 q (.cells ([] ++ [sv, .slice (some ⟨g, 0, none⟩) (ini.length + 1) cap].set 0 v').toArray 70)) _ _ _ _ _ _ := ho'.kept fun b hb => upd_ne _ _ _ _ (by rintro rfl; exact nvq hb)
      have am2 := am1.keep (upd_ne y1 q mp (.cells ([] ++ [sv, .slice (some ⟨g, 0, none⟩) (ini.length + 1) cap].set 0 v').toArray 70) hqm)
      have hmap2 := (upd_ne y1 q mp (.cells ([] ++ [sv, .slice (some ⟨g, 0, none⟩) (ini.length + 1) cap].set 0 v').toArray 70) hqm).trans hmap1
      have hB2 : Bel w0 (upd y1 q (.cells ([] ++ [sv, .slice (some ⟨g, 0, none⟩) (ini.length + 1) cap].set 0 v').toArray 70)) := bu hB1' M3.ge.1 _
      generalize upd y1 q (.cells ([] ++ [sv, .slice (some ⟨g, 0, none⟩) (ini.length + 1) cap].set 0 v').toArray 70) = y2 at tf2 tf2' q2c hg2 ho2 am2 hmap2 hB2 ⊢
      have h1 := tf2'.keep _ _ h1 (by simp [otherT])
      have h2 := tf2'.keep _ _ h2 (by simp [otherT])
      have cax := tf2'.keep _ _ cax (by simp [otherT])
      have r7x := tf2'.keep _ _ r7x (by simp [otherT])
      simp [h1, h2, cax, -newP_some, -storeW_ptr, -zero_34, -zero_133, -zero_79]
      refine mupd (k := prOf key) (v := (sl.id, sl.size)) (ek := ekP) (ev := ekL) keyP Try.underlying147 am2 ?_
      rintro o1 ⟨es1, cl1, ho1⟩ hm1
      have tf3' := TF.upd (q := q) hmap2 (by simp [otherT]) (.inr (by simp [otherU])) o1
      have q3c := (upd_ne y2 mp q o1 hqm.symm).trans q2c
      have hg3 := (upd_ne y2 mp g o1 hgm.symm).trans hg2
      have ho3 : Own (upd y2 mp o1) _ _ _ _ _ _ := ho2.kept fun b hb => upd_ne _ _ _ _ (by rintro rfl; exact nvm hb)
      have hB3' : Bel w0 (upd y2 mp o1) := bu hB2 M3.ge.2 _
      have r7x := tf3'.keep _ _ r7x (by simp [otherT])
      have tf3 := tf2.trans tf3'
      generalize upd y2 mp o1 = y3 at hm1 q3c hg3 ho3 hB3' r7x tf3 ⊢
      refine drawn' (St0 := Bel y3) (bd (br y3)) fun St hS => ?_
      have hSu := (hS y3.drew).2 (bd (br y3))
      refine ⟨.int .u32 sl.size, fun a ha => ?_, ?_⟩
      · have := ldC (bg ((hS a).1 ha) hg3) (o := ini.length * 5 + 1) (j := 1) (by omega)
        simp only [loadW_ptr, shape_32, ldSh_one, this]; rfl
      rw [readP_iff (fun a ha => bg ((hS a).1 ha) r7x) hSu]
      simp [-newP_some, -storeW_ptr, -zero_34, -zero_133, -zero_79]
      have e7 : (sl.size + size % 4294967296) % 4294967296 = sl.size + size := by omega
      have e7' : (sl.size + size) % 4294967296 = sl.size + size := by omega
      have e8 : (sl.many + 1) % 4294967296 = sl.many + 1 := by omega
      simp only [e7, e7']
      have hd := bd (br y3)
      have q3c := bg hd q3c
      have hg3 := bg hd hg3
      have ho3 := ho3.bel hd
      have hB3' := bt hB3' hd
      have r7x := bg hd r7x
      have hm1 := hm1.bel hd
      have tf3 := tf3.trans (TF.bel hd)
      generalize y3.drew = y4 at q3c hg3 ho3 hB3' r7x hm1 tf3 ⊢
      have hgrb : rb ≠ g := by rintro rfl; rw [hg3] at r7x; injection r7x with r7x; injection r7x with _ r7x; cases r7x
      refine stC (j := 1) hg3 (by omega) (by simp [encSl]) size_32 rfl rfl ?_
      have hs1 : (encSl sl ++ rest).set 1 (.int .u32 (sl.size + size)) = encSl ⟨sl.id, sl.size + size, sl.many, sl.first, sl.last⟩ ++ rest := rfl
      rw [hs1]
      have hg4 : hp (upd y4 g (.cells (ini.flatMap encSl ++ (encSl ⟨sl.id, sl.size + size, sl.many, sl.first, sl.last⟩ ++ rest)).toArray 116)) g = some (.cells (ini.flatMap encSl ++ (encSl ⟨sl.id, sl.size + size, sl.many, sl.first, sl.last⟩ ++ rest)).toArray 116) := by simp [hg3]
      rw [ldC hg4 (o := ini.length * 5 + 2) (j := 2) (by omega)]
      refine (getO_some _ _).2 ?_
      refine (pure_add _ _ _ _ _ _).2 ?_
      rw [wrap_u32, e8]
      refine stC (j := 2) hg4 (by omega) (by simp [encSl]) size_32 rfl rfl ?_
      have hs2 : (encSl ⟨sl.id, sl.size + size, sl.many, sl.first, sl.last⟩ ++ rest).set 2 (.int .u32 (sl.many + 1)) = encSl ⟨sl.id, sl.size + size, sl.many + 1, sl.first, sl.last⟩ ++ rest := rfl
      rw [hs2, upd_upd]
      have hg5 : hp (upd y4 g (.cells (ini.flatMap encSl ++ (encSl ⟨sl.id, sl.size + size, sl.many + 1, sl.first, sl.last⟩ ++ rest)).toArray 116)) g = some (.cells (ini.flatMap encSl ++ (encSl ⟨sl.id, sl.size + size, sl.many + 1, sl.first, sl.last⟩ ++ rest)).toArray 116) := by simp [hg3]
      have hr : cellOf (hp (upd y4 g (.cells (ini.flatMap encSl ++ (encSl ⟨sl.id, sl.size + size, sl.many + 1, sl.first, sl.last⟩ ++ rest)).toArray 116)) rb) 1 = some (.int .u64 seq) := by rw [upd_ne _ _ _ _ hgrb, r7x]; rfl
      rw [hr]
      refine (getO_some _ _).2 ?_
      refine stC (j := 4) hg5 (by omega) (by simp [encSl]) size_35 rfl rfl ?_
      have hs3 : (encSl ⟨sl.id, sl.size + size, sl.many + 1, sl.first, sl.last⟩ ++ rest).set 4 (.int .u64 seq) = encSl ⟨sl.id, sl.size + size, sl.many + 1, sl.first, seq⟩ ++ rest := rfl
      rw [hs3, upd_upd]
      refine hR _ v' (.slice (some ⟨g, 0, none⟩) (ini.length + 1) cap) (bu hB3' hBg _) (tf3.trans (TF.upd hg3 (by simp [otherT]) (.inr (by simp [otherU])) _)) ⟨?_, ?_, ?_, ?_, M3.ge⟩
      · rw [upd_ne _ _ _ _ hqg.symm]; exact q3c
      · exact ho3.kept fun b hb => upd_ne _ _ _ _ (by rintro rfl; exact nvg hb)
      · exact hfin _ _ (by simp [hg3])
      · exact hm1.keep (upd_ne _ _ _ _ hgm)
    have hat0 : At w3 g (0 + ini.length * 5) (encSl sl) := ⟨_, _, _, hg, fun j y hy => by
      have hj := (List.getElem?_eq_some_iff.1 hy).1
      simp only [List.getElem?_toArray]
      rw [List.getElem?_append_right (by omega), show 0 + ini.length * 5 + j - (ini.flatMap encSl).length = j by omega, List.getElem?_append_left hj, hy]⟩
    rw [Nat.zero_add] at hat0
    refine drawn' (St0 := Bel w3) (bd (br w3)) fun St hS => ?_
    have hSu := (hS w3.drew).2 (bd (br w3))
    simp [-newP_some, -storeW_ptr, -zero_34, -zero_133, -zero_79]
    refine ⟨.int .u32 sl.id, fun a ha => ?_, ?_⟩
    · have := (hat0.bel ((hS a).1 ha)).cell0 (by simp [encSl])
      simp only [loadW_ptr, shape_32, ldSh_one, this]; rfl
    refine ⟨.int .u32 sl.size, fun a ha => ?_, ?_⟩
    · have := (hat0.bel ((hS a).1 ha)).cell 1 (by simp [encSl])
      simp only [loadW_ptr, shape_32, ldSh_one, this]; rfl
    simp [-newP_some, -storeW_ptr, -zero_34, -zero_133, -zero_79]
    rw [readP_iff (fun a ha => bg ((hS a).1 ha) r7) hSu]
    simp [-newP_some, -storeW_ptr, -zero_34, -zero_133, -zero_79]
    have hd := bd (br w3)
    have hB3d := bt hB3 hd
    generalize w3.drew = v0 at hd hB3d ⊢
    have hsz3 : w3.heap.size ≤ v0.heap.size := hd.size
    have fin : ∀ x q1 q2, Bel w3 x → w3.heap.size ≤ q1 → w3.heap.size ≤ q2 → q1 ≠ q2 → hp x q1 = some (.cells #[.int .u32 0, .int .u32 0] 34) → hp x q2 = some (.cells #[.int .u8 0, .int .u64 0, .int .u64 0, .int .u64 0, .int .u64 0, .int .u64 0, .int .u64 0, .int .u64 0, .int .u64 0] 133) →
        getU (storeW Pg 34 (.pointer (some ⟨q1, 0, none⟩)) (.agg #[.int .u32 sl.id, .int .u32 sl.size]) x) fun w => St w ∧ getU (storeW Pg 133 (.pointer (some ⟨q2, 0, none⟩)) (ekP (prOf key)) w) fun w => J14 [.pointer (some ⟨q1, 0, none⟩), .pointer (some ⟨q2, 0, none⟩)] w := by
      intro x q1 q2 hx l1 l2 hne h1 h2
      refine st34 h1 ⟨(hS _).2 (bu hx l1 _), ?_⟩
      have h2' : hp (upd x q1 (.cells #[.int .u32 sl.id, .int .u32 sl.size] 34)) q2 = some (.cells #[.int .u8 0, .int .u64 0, .int .u64 0, .int .u64 0, .int .u64 0, .int .u64 0, .int .u64 0, .int .u64 0, .int .u64 0] 133) := by rw [upd_ne _ _ _ _ hne.symm]; exact h2
      refine st133 h2' (key14 _ q1 q2 (bu (bu hx l1 _) l2 _) ?_ ?_)
      · rw [upd_ne _ _ _ _ hne]; simp [h1]
      · simp [h2', h2]
    have of := fun {x : World} (hx : Bel v0 x) {K : Value → World → Prop} (hK : ∀ x', Bel x x' → K (ekP (prOf key)) x') => (s49 (hbs.bel (bt hB3d hx)) hby hxk.1 hxk.2 hK : F49 _ _ _)
    have hb0 := br v0
    have T : ∀ {x}, Bel v0 x → St x := fun h => (hS _).2 (bt hd h)
    refine ⟨c49 (of hb0 fun x b => ⟨T b, newL zero_34 fun q1 x1 b1 l1 t1 h1 => ⟨T (bt b b1), newL zero_133 fun q2 x2 b2 l2 t2 h2 => ⟨T (bt (bt b b1) b2), ?_⟩⟩, newL zero_133 fun q2 x1 b1 l1 t1 h1 => ⟨T (bt b b1), newL zero_34 fun q1 x2 b2 l2 t2 h2 => ⟨T (bt (bt b b1) b2), ?_⟩⟩⟩),
      newL zero_34 fun q1 x1 b1 l1 t1 h1 => ⟨T b1, c49 (of b1 fun x2 b2 => ⟨T (bt b1 b2), newL zero_133 fun q2 x3 b3 l3 t3 h3 => ⟨T (bt (bt b1 b2) b3), ?_⟩⟩), newL zero_133 fun q2 x2 b2 l2 t2 h2 => ⟨T (bt b1 b2), c49 (of (bt b1 b2) fun x3 b3 => ⟨T (bt (bt b1 b2) b3), ?_⟩)⟩⟩,
      newL zero_133 fun q2 x1 b1 l1 t1 h1 => ⟨T b1, c49 (of b1 fun x2 b2 => ⟨T (bt b1 b2), newL zero_34 fun q1 x3 b3 l3 t3 h3 => ⟨T (bt (bt b1 b2) b3), ?_⟩⟩), newL zero_34 fun q1 x2 b2 l2 t2 h2 => ⟨T (bt b1 b2), c49 (of (bt b1 b2) fun x3 b3 => ⟨T (bt (bt b1 b2) b3), ?_⟩)⟩⟩⟩
    · have := b.size; exact fin x2 q1 q2 (bt hd (bt (bt b b1) b2)) (by omega) (by have := b1.size; omega) (by omega) (bg b2 h1) h2
    · have := b.size; exact fin x2 q1 q2 (bt hd (bt (bt b b1) b2)) (by have := b1.size; omega) (by omega) (by omega) h2 (bg b2 h1)
    · exact fin x3 q1 q2 (bt hd (bt (bt b1 b2) b3)) (by omega) (by have := b2.size; have := b1.size; omega) (by have := b2.size; omega) (bg b3 (bg b2 h1)) h3
    · exact fin x3 q1 q2 (bt hd (bt (bt b1 b2) b3)) (by omega) (by have := b1.size; omega) (by omega) (bg b3 (bg b2 h1)) (bg b3 h2)
    · exact fin x3 q1 q2 (bt hd (bt (bt b1 b2) b3)) (by have := b2.size; have := b1.size; omega) (by omega) (by have := b2.size; omega) h3 (bg b3 (bg b2 h1))
    · exact fin x3 q1 q2 (bt hd (bt (bt b1 b2) b3)) (by have := b1.size; omega) (by omega) (by omega) (bg b3 h2) (bg b3 (bg b2 h1))
  refine join_of fun J5 hJ5 => ?_
  have key5 : ∀ (bb : Bool) w2, Bel w1 w2 → (bb = true ↔ (s.seals = [] ∨ ∃ l, s.seals.getLast? = some l ∧ limit < l.size + size)) → J5 [.bool bb] w2 := by
    intro bb w2 h12 hbb
    refine hJ5 _ _ ?_
    have M2 := M1.bel h12
    have r7 := bg h12 r7
    have c7 := bg h12 c7
    simp
    refine ifB (fun h => ?_) (fun h => ?_)
    · have hbb := hbb.1 h
      have hlen := hok.len
      simp [M2.cell, c7, r7]
      have e1 : (first + (s.seals.length : Int)) % 4294967296 = first + (s.seals.length : Int) := by omega
      have e2 : IntKind.i64.wrap ((s.seals.length : Int) + 1) = ((s.seals.length + 1 : Nat) : Int) := wrap_i64 (by omega) (by omega)
      rw [e1, e2]
      have hop : opened limit first s.seals ⟨key, seq, kind, size⟩ = (s.seals, ⟨first + s.seals.length, 16, 0, seq, 0⟩) := by
        unfold opened
        rcases hbb with hbb | ⟨l, hl, hlt⟩
        · rw [hbb]; simp
        · rw [hl]; simp [hlt]
      rw [hop] at key4
      have hx3 := bx' w2 [.cells #[.int .u32 (first + (s.seals.length : Int)), .int .u32 16, .int .u32 0, .int .u64 seq, .int .u64 0] 116]
      have g3 := hp_ext_at (w := w2) (L := [.cells #[.int .u32 (first + (s.seals.length : Int)), .int .u32 16, .int .u32 0, .int .u64 seq, .int .u64 0] 116]) (i := 0) rfl
      rw [Nat.add_zero] at g3
      have M3 := M2.bel hx3
      have hB3 := bt hB1 (bt h12 hx3)
      have tf3 := TF.bel (q := q) (bt h12 hx3)
      generalize ext w2 [.cells #[.int .u32 (first + (s.seals.length : Int)), .int .u32 16, .int .u32 0, .int .u64 seq, .int .u64 0] 116] = w3 at hx3 g3 M3 hB3 tf3 ⊢
      refine app row68 encSl_ok M3.sl (x := ⟨first + s.seals.length, 16, 0, seq, 0⟩) g3 rfl (by omega) (by simp only [maxLen]; omega) hB3.size fun v' w4 ho' hg' hv' => ?_
      have nq : some q ≠ lv.ownBlock := M3.sl.ne M3.cell (by intro cur e; injection e with _ e; cases e)
      have q4 := grown_hp hg' M3.cell nq
      obtain ⟨va', vc', hvf'⟩ := (ho'.rd encSl_ok).form
      have hcv : v'.cells = #[v'] ∧ flatV v' = true := by rw [hvf']; exact ⟨rfl, rfl⟩
      simp [q4, hcv.1, hcv.2]
      obtain ⟨es, cl, hm, _⟩ := id M3.am
      have nm : some mp ≠ lv.ownBlock := M3.sl.ne hm (by intro cur e; cases e)
      have st4 : Own w4 w0.heap.size 75 5 encSp sv s.steps := M3.st.aside M3.sl (by decide) hg'
      have nq' : v'.ownBlock ≠ some q := by
        intro e
        obtain ⟨cur, hc⟩ := ho'.row e
        rw [q4] at hc; injection hc with hc; injection hc with _ hc; cases hc
      have nqs : sv.ownBlock ≠ some q := by
        intro e
        obtain ⟨cur, hc⟩ := st4.row e
        rw [q4] at hc; injection hc with hc; injection hc with _ hc; cases hc
      have nqm : mp ≠ q := by rintro rfl; have := M3.cell; rw [hm] at this; cases this
      refine key4 _ v' ?_ ?_ ⟨by simp [q4], ?_, ?_, ?_, M3.ge⟩
      · exact bu (grown_bel hg' hB3 fun g hg => (M3.sl.ge hg).1) M3.ge.1 _
      · exact tf3.trans ((TF.grown M3.sl hg' (.inr rfl)).trans (TF.upd q4 (by simp [otherT]) (.inl rfl) _))
      · exact st4.kept fun g hg => upd_ne _ _ _ _ (by rintro rfl; exact nqs hg)
      · exact ho'.kept fun g hg => upd_ne _ _ _ _ (by rintro rfl; exact nq' hg)
      · exact (M3.am.keep (hg'.block _ M3.am.lt nm)).keep (upd_ne _ _ _ _ nqm)
    · have hbb : ¬ (s.seals = [] ∨ ∃ l, s.seals.getLast? = some l ∧ limit < l.size + size) := fun hh => by rw [hbb.2 hh] at h; cases h
      have hne : s.seals ≠ [] := fun e => hbb (.inl e)
      have hgl := List.getLast?_eq_some_getLast hne
      have hop : opened limit first s.seals ⟨key, seq, kind, size⟩ = (s.seals.dropLast, s.seals.getLast hne) := by
        unfold opened
        rw [hgl]
        have : ¬ limit < (s.seals.getLast hne).size + size := fun hh => hbb (.inr ⟨_, hgl, hh⟩)
        simp [this]
      rw [hop] at key4
      have hdl := List.dropLast_concat_getLast hne
      have hlen : s.seals.dropLast.length + 1 = s.seals.length := by
        have := congrArg List.length hdl
        simpa using this
      dsimp only at key4
      rw [hdl, hlen] at key4
      exact key4 w2 lv (bt hB1 h12) (TF.bel h12) (by obtain ⟨st, sl, ah⟩ := s; exact M2)
  refine drawn' (St0 := Bel w1) (bd (br w1)) fun St hS => ?_
  have hSu := (hS w1.drew).2 (bd (br w1))
  refine (pure_eql _ _ _ _ _ _).2 ?_
  refine ifD (fun h => ?_) (fun h => ?_)
  · have : s.seals = [] := List.eq_nil_of_length_eq_zero (by omega)
    exact key5 true _ (bd (br w1)) (by simp [this])
  · have hpos : 0 < s.seals.length := by omega
    have hne : s.seals ≠ [] := by intro e; rw [e] at hpos; simp at hpos
    have hgl := List.getLast?_eq_some_getLast hne
    have hget : s.seals[s.seals.length - 1]? = some (s.seals.getLast hne) := by rw [← List.getLast?_eq_getElem?]; exact hgl
    rw [readP_iff (fun a ha => bg ((hS a).1 ha) M1.cell) hSu]
    have hlen := hok.len
    have e2 : IntKind.i64.wrap ((s.seals.length : Int) - 1) = ((s.seals.length - 1 : Nat) : Int) := by rw [wrap_i64 (by omega) (by omega)]; omega
    simp [e2]
    rw [hlf] at hlr ⊢
    obtain ⟨b2, o2, c3, ⟨off2, ho2, hsl2⟩, hat2⟩ := hlr.at hget
    injection hsl2 with hsl2 _ _
    subst hsl2
    have hml := hok.sl _ (List.getLast_mem hne)
    rw [idxR (T := 68) (k := 5) (by kernel_rfl) (by omega), ← ho2]
    simp
    refine ⟨.int .u32 (s.seals.getLast hne).size, fun a ha => ?_, ?_⟩
    · have := (hat2.bel ((hS a).1 ha)).cell 1 (by simp [encSl])
      simp only [loadW_ptr, shape_32, ldSh_one, this]; rfl
    simp
    rw [readP_iff (fun a ha => bg ((hS a).1 ha) r7) hSu]
    simp
    rw [readP_iff (fun a ha => bg ((hS a).1 ha) c6) hSu]
    simp
    have e3 : IntKind.i64.wrap (IntKind.i64.wrap (s.seals.getLast hne).size + size) = (s.seals.getLast hne).size + size := by
      rw [wrap_i64 (n := (s.seals.getLast hne).size) (by omega) (by omega), wrap_i64 (by omega) (by omega)]
    rw [e3]
    refine key5 _ _ (bd (br w1)) ?_
    rw [decide_eq_true_eq]
    constructor
    · intro hh; exact .inr ⟨_, hgl, hh⟩
    · rintro (hh | ⟨l, hl, hh⟩)
      · exact absurd hh hne
      · rw [hgl] at hl; injection hl with hl; subst hl; exact hh
end Go.Proofs.Ytbcmoikpmmjlkaa
