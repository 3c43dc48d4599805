/- Law 25: what ref25.Of computes. -/
import Derived.Test.YtbcmoikpmmjlkaaPG
namespace Go.Proofs.Ytbcmoikpmmjlkaa
open Go Eng
set_option maxRecDepth 100000
theorem st116 {w : World} {q : Nat} {s : Sl} (h : hp w q = some (.cells #[.int .u32 0, .int .u32 0, .int .u32 0, .int .u64 0, .int .u64 0] 116)) {K : World → Prop} (hK : K (upd w q (.cells (encSl s).toArray 116))) : getU (storeW Pg 116 (.pointer (some ⟨q, 0, none⟩)) (.agg (encSl s).toArray) w) K := by
  simp [h, encSl]
  simpa [encSl] using hK
set_option maxHeartbeats 2000000 in
/-- ref25.Of. -/
theorem s39 {w : World} {v av : Value} {ims : List Im} {at_ : List Int} {limit first : Int} (h : Items w v ims) (ha : Rd w 1 encU av at_) (hl : ims.length ≤ 1000) (hl2 : at_.length ≤ 1000) {R : Value → World → Prop}
    (hR : ∀ w' sv lv, Bel w w' → Rd w' 5 encSp sv (planOf (ims.map Im.it) at_ limit first).1 → Rd w' 5 encSl lv (planOf (ims.map Im.it) at_ limit first).2.1 → R (.tuple #[.agg #[sv, lv], .int .i64 (planOf (ims.map Im.it) at_ limit first).2.2]) w') :
    F39 v av (.int .i64 limit) (.int .u32 first) w R := by
  obtain ⟨va, vc, rfl⟩ := h.rd.form
  unfold F39
  refine newL zero_111 fun r8 u bu0 hle8 hlt8 c3 => ?_
  dsimp only [cells_agg] at c3
  refine c41 (s41 (h.rd.bel bu0) (by omega) fun u1 b1 => ?_)
  have hx1 := bt bu0 b1
  have c3 := bg b1 c3
  have nil5 : ∀ {α : Type} {enc : α → List Value} (x : World), Rd x 5 enc (.slice none 0 0) ([] : List α) := fun x => rd_nil _ _ _
  have err : ∀ x e, Bel w x → planOf (ims.map Im.it) at_ limit first = ([], [], e) → R (.tuple #[.agg #[.slice none 0 0, .slice none 0 0], .int .i64 e]) x := fun x e hb he => by
    have := hR x (.slice none 0 0) (.slice none 0 0) hb
    rw [he] at this
    exact this (nil5 x) (nil5 x)
  have hfin : ∀ y sv lv e, hp y r8 = some (.cells #[sv, lv] 111) → R (.tuple #[.agg #[sv, lv], e]) y → readW Pg (Instr.loadAt 111 (.pointer (some ⟨r8, 0, none⟩))) y fun r0 => R (.tuple #[r0, e]) y := fun y sv lv e hy hr => readW_of (by simp [hy]; exact hr)
  have err1 : (mayI 0 (ims.map Im.it) = false ∨ outP limit first = true) → readW Pg (Instr.loadAt 111 (.pointer (some ⟨r8, 0, none⟩))) (upd u1 r8 (.cells #[.slice none 0 0, .slice none 0 0] 111)) fun r0 => R (.tuple #[r0, .int .i64 1]) (upd u1 r8 (.cells #[.slice none 0 0, .slice none 0 0] 111)) := fun hc =>
    hfin _ _ _ _ (by simp [c3]) (err _ 1 (bu hx1 hle8 _) (by unfold planOf; rw [if_pos hc]))
  simp [c3, -newP_some, -zero_34, -zero_116, -zero_111]
  refine ifB (fun h1 => err1 (.inl (by simpa using h1))) (fun h1 => ?_)
  refine ifD (fun h2 => err1 (.inr (decide_eq_true (.inl h2)))) (fun h2 => ?_)
  refine ifD (fun h3 => err1 (.inr (decide_eq_true (.inr (.inl h3))))) (fun h3 => ?_)
  refine ifD (fun h4 => err1 (.inr (decide_eq_true (.inr (.inr (.inl h4)))))) (fun h4 => ?_)
  refine ifD (fun h5 => err1 (.inr (decide_eq_true (.inr (.inr (.inr h5)))))) (fun h5 => ?_)
  have h1 : mayI 0 (ims.map Im.it) = true := by simpa using h1
  have hmp := mayP_of (Int.le_refl 0) h1
  have hok := h.okB
  have hplan : planOf (ims.map Im.it) at_ limit first = if fullP (layTo (ims.map Im.it) at_ limit first ims.length) = true then ([], [], 7) else ((layTo (ims.map Im.it) at_ limit first ims.length).steps, (layTo (ims.map Im.it) at_ limit first ims.length).seals, 0) := by
    unfold planOf
    rw [if_neg (by rw [h1]; simp [outP]; omega), List.length_map]
  clear err1
  have hil : (ims.map Im.it).length = ims.length := by simp
  have hk : ∀ x ∈ ims, x.it.key ≠ [] := by
    intro x hx e
    obtain ⟨j, hj⟩ := List.getElem?_of_mem hx
    have := hmp.key j (by rw [hil]; exact (List.getElem?_eq_some_iff.1 hj).1)
    rw [its_at hj, e] at this
    simp at this
  have hbs := h.bs hk
  refine newL zero_111 fun q u2 b2 hleq hltq cq => ?_
  dsimp only [cells_agg] at cq
  have hx2 := bt hx1 b2
  have hsz8 := hp_lt c3
  have c3 := bg b2 c3
  have hne8 : r8 ≠ q := by omega
  have hBq : w.heap.size ≤ q := by have := hx1.size; omega
  have e6 : ∀ {m : Nat}, m ≤ 200000 → IntKind.i64.wrap ((m : Int) + 1) = ((m + 1 : Nat) : Int) := fun h => i64_succ (by omega)
  refine ⟨fun s y => ∃ (i : Nat) (sv lv : Value), s = [.int .i64 (i : Nat)] ∧ i ≤ ims.length ∧ Bel w y ∧ hp y r8 = some (.cells #[.slice none 0 0, .slice none 0 0] 111) ∧ PlR y w.heap.size q sv lv (layTo (ims.map Im.it) at_ limit first i).steps (layTo (ims.map Im.it) at_ limit first i).seals, fun s _ => (ims.length + 1 - n0 s 0).toNat, ⟨0, _, _, rfl, by omega, hx2, c3, ⟨cq, Own.nil _ _ _ _ _, Own.nil _ _ _ _ _, hBq⟩⟩, ?_⟩
  clear cq c3 hx2 b2 hx1 b1
  rintro s y ⟨i, sv, lv, rfl, hi, hy, c3, M⟩
  simp [-newP_some, -storeW_ptr, -zero_34, -zero_116, -zero_111]
  refine ifD (fun h6 => ?_) (fun h6 => ?_)
  · have hkr := kept_ref (its := ims.map Im.it) at_ limit first (i := i)
    have hal := ahead_last hmp hok at_ limit first i (by rw [hil]; exact hi) i (by rw [hil]; exact h6)
    have hlay : layTo (ims.map Im.it) at_ limit first (i + 1) = if keptB (ims.map Im.it) at_ i then layP limit first (layTo (ims.map Im.it) at_ limit first i) i ((ims.map Im.it).getD i default) else layTo (ims.map Im.it) at_ limit first i := rfl
    obtain ⟨n, hn, hpok⟩ := layTo_ok (first := first) hmp at_ (limit := limit) (by omega) i (by rw [hil]; exact hi)
    have hstin : ∀ s ∈ (layTo (ims.map Im.it) at_ limit first i).steps, s.item < ims.length := by
      intro s hs
      have : s.item ∈ keptN (ims.map Im.it) at_ i := by rw [← layTo_items (limit := limit) (first := first)]; exact List.mem_map.2 ⟨s, hs, rfl⟩
      have := (keptN_mem.1 this).1
      omega
    have hgi := List.getElem?_eq_getElem h6
    have hmi := List.getElem_mem h6
    have hiti := its_at hgi
    have hkind := hmp.kind i (by rw [hil]; exact h6)
    have hsize := hmp.size i (by rw [hil]; exact h6)
    have hbsi := hbs _ hmi
    have hbyi := h.byte _ hmi
    have hat0 := h.rd.at hgi
    rw [hiti] at hkr hal hkind hsize hlay
    generalize layTo (ims.map Im.it) at_ limit first i = ps at M hkr hal hlay hpok hstin
    generalize ims[i] = x at hgi hmi hiti hbsi hbyi hat0 hkr hal hkind hsize hlay
    obtain ⟨bi, oi, ci, ⟨offi, hoi, hsli⟩, hati⟩ := hat0
    injection hsli with hsli _ _
    subst hsli
    -- what is passed over
    have skip : ∀ y2, Bel w y2 → hp y2 r8 = some (.cells #[.slice none 0 0, .slice none 0 0] 111) → PlR y2 w.heap.size q sv lv ps.steps ps.seals → keptB (ims.map Im.it) at_ i = false → (∃ (i_1 : Nat) (sv lv : Value), ([Value.int .i64 (IntKind.i64.wrap ((i : Int) + 1))] : List Value) = [.int .i64 (i_1 : Nat)] ∧ i_1 ≤ ims.length ∧ Bel w y2 ∧ hp y2 r8 = some (.cells #[.slice none 0 0, .slice none 0 0] 111) ∧ PlR y2 w.heap.size q sv lv (layTo (ims.map Im.it) at_ limit first i_1).steps (layTo (ims.map Im.it) at_ limit first i_1).seals) := by
      intro y2 hb hc hM hkf
      rw [hkf] at hlay
      refine ⟨i + 1, sv, lv, by rw [e6 (by omega)], h6, hb, hc, ?_⟩
      rw [hlay]; exact hM
    refine c71 (s71 (h.bel hy) hk (ha.bel hy) (by omega) (by omega) h6 fun y1 b1 => ?_)
    have hy1 := bt hy b1
    have c3 := bg b1 c3
    have M := M.bel b1
    refine (pure_not _ _ _).2 ?_
    refine ifB (fun h7 => ?_) (fun h7 => ?_)
    · have h7 : seenAt (ims.map Im.it) at_ i = false := by simpa using h7
      rw [h7, Bool.false_and] at hkr
      obtain ⟨i1, s1, l1, e1, e2⟩ := skip y1 hy1 c3 M hkr
      exact ⟨⟨i1, by simpa using e1, e2.1, e2.2.1, e2.2.2.1, s1, l1, e2.2.2.2⟩, by rw [e6 (by omega)]; simp [n0]; omega⟩
    have h7 : seenAt (ims.map Im.it) at_ i = true := by simpa using h7
    rw [h7, Bool.true_and] at hkr
    refine newL zero_34 fun r12 y2 b2 hle12 hlt12 c12 => ?_
    dsimp only [cells_agg] at c12
    refine st34 c12 ?_
    have c12 : hp (upd y2 r12 (.cells #[.int .u32 0, .int .u32 0] 34)) r12 = some (.cells #[.int .u32 0, .int .u32 0] 34) := by simp [c12]
    have b12 : Bel y1 (upd y2 r12 (.cells #[.int .u32 0, .int .u32 0] 34)) := bu b2 hle12 _
    generalize upd y2 r12 (.cells #[.int .u32 0, .int .u32 0] 34) = y3 at c12 b12 ⊢
    clear b2 hlt12
    obtain ⟨sa, sc, rfl⟩ := (M.st.rd encSp_ok).form
    have hstr := M.st.rd encSp_ok
    have hstl : ps.steps.length ≤ 1000 := by have := hpok.steps; omega
    refine ⟨fun s z => ∃ k : Nat, s = [.bool (lastTo (ims.map Im.it) (ps.steps.take k) x.it.key).isSome, .int .i64 (k : Nat)] ∧ k ≤ ps.steps.length ∧ Bel y1 z ∧ hp z r12 = some (.cells #[.int .u32 ((lastTo (ims.map Im.it) (ps.steps.take k) x.it.key).getD (0, 0)).1, .int .u32 ((lastTo (ims.map Im.it) (ps.steps.take k) x.it.key).getD (0, 0)).2] 34), fun s _ => (ps.steps.length + 1 - n0 s 1).toNat, ⟨0, rfl, by omega, b12, c12⟩, ?_⟩
    rintro s z ⟨k, rfl, hkk, hz, cz⟩
    have Mz := M.bel hz
    simp [Mz.cell, -newP_some, -storeW_ptr, -zero_34, -zero_116, -zero_111]
    refine ifD (fun h8 => ?_) (fun h8 => ?_)
    · have hgk := List.getElem?_eq_getElem h8
      have htk : ps.steps.take (k + 1) = ps.steps.take k ++ [ps.steps[k]] := by rw [List.take_succ_eq_append_getElem h8]
      have hsn := lastTo_snoc (ims.map Im.it) (ps.steps.take k) ps.steps[k] x.it.key
      rw [← htk] at hsn
      have hsin := hstin _ (List.getElem_mem h8)
      obtain ⟨bs, os, cs, ⟨offs, hos, hsls⟩, hats⟩ := (hstr.bel hz).at hgk
      injection hsls with hsls _ _
      subst hsls
      generalize ps.steps[k] = st at hsn hsin hats
      have hgj := List.getElem?_eq_getElem hsin
      have hmj := List.getElem_mem hsin
      have hbsj := hbs _ hmj
      have hbyj := h.byte _ hmj
      have hatj := h.rd.at hgj
      rw [its_at hgj] at hsn
      generalize ims[st.item] = xj at hgj hmj hbsj hbyj hatj hsn
      obtain ⟨bj, oj, cj, ⟨offj, hoj, hslj⟩, hatj⟩ := hatj
      injection hslj with hslj _ _
      injection hslj with hslj
      injection hslj with hs1 hs2
      subst hs1; subst hs2
      have hzd := bd (br z)
      have hwz := bt hy1 hz
      refine drawn' (St0 := Bel z) hzd fun St hS => ?_
      have hSu := (hS z.drew).2 hzd
      rw [readP_iff (fun a ha' => bg ((hS a).1 ha') Mz.cell) hSu]
      simp [-newP_some, -storeW_ptr, -zero_34, -zero_116, -zero_111]
      refine (idxR (T := 109) (k := 5) (by kernel_rfl) h8).2 ?_
      rw [← hos]
      simp [-newP_some, -storeW_ptr, -zero_34, -zero_116, -zero_111]
      refine ⟨.int .i64 (st.item : Nat), fun a ha' => ?_, ?_⟩
      · have := (hats.bel ((hS a).1 ha')).cell0 (by simp [encSp])
        simp only [loadW_ptr, shape_3, ldSh_one, this]; rfl
      refine (idxR (T := 105) (k := 4) (by kernel_rfl) hsin).2 ?_
      rw [← hoj]
      refine ⟨.agg (encIm xj).toArray, fun a ha' => ?_, ?_⟩
      · have := (hatj.bel (bt hwz ((hS a).1 ha'))).cells0 4 (by decide) (by simp [encIm])
        simp only [loadW_ptr, shape_107, ldSh_agg, this]; rfl
      refine (idxR (T := 105) (k := 4) (by kernel_rfl) h6).2 ?_
      rw [← hoi]
      refine ⟨.agg (encIm x).toArray, fun a ha' => ?_, ?_⟩
      · have := (hati.bel (bt hwz ((hS a).1 ha'))).cells0 4 (by decide) (by simp [encIm])
        simp only [loadW_ptr, shape_107, ldSh_agg, this]; rfl
      refine c72 (s72 (hbsj.bel (bt hwz hzd)) (hbsi.bel (bt hwz hzd)) hbyj hbyi fun z2 b2 => ?_)
      have hz2 := bt hzd b2
      refine ⟨(hS _).2 hz2, ?_⟩
      have Mz2 := Mz.bel hz2
      have cz2 := bg hz2 cz
      refine ifD (fun h9 => ?_) (fun h9 => ?_)
      · rw [if_pos h9] at hsn
        rw [Mz2.cell]
        simp [-newP_some, -storeW_ptr, -zero_34, -zero_116, -zero_111]
        refine (idxR (T := 109) (k := 5) (by kernel_rfl) h8).2 ?_
        rw [← hos]
        have hto := (hats.bel hz2).cells 1 2 (by decide) (by simp [encSp])
        simp [hto, encSp, cz2]
        rw [e6 (by omega)]
        refine ⟨⟨k + 1, ⟨by rw [hsn]; rfl, rfl⟩, h8, bu (bt hz hz2) hle12 _, ?_⟩, by simp [n0]; omega⟩
        rw [hsn]; exact ⟨rfl, rfl⟩
      · rw [if_neg h9] at hsn
        rw [e6 (by omega)]
        refine ⟨⟨k + 1, ⟨by rw [hsn], rfl⟩, h8, bt hz hz2, ?_⟩, by simp [n0]; omega⟩
        rw [hsn]; exact cz2
    obtain rfl : k = ps.steps.length := by omega
    rw [List.take_length] at cz ⊢
    rw [← hal] at hkr cz ⊢
    have hwz := bt hy1 hz
    have c3z := bg hz c3
    have Mzz := Mz
    refine join_of fun J56 hJ56 => ?_
    have key56 : keptB (ims.map Im.it) at_ i = true → J56 [] z := by
      intro hkt
      rw [hkt, if_pos rfl] at hlay
      refine hJ56 _ _ ?_
      obtain ⟨o1, o2, o3, o4, o5, o6, o7, o8, o9⟩ := opened_ok (limit := limit) hpok x.it
      have hlr := Mz.sl.rd encSl_ok
      obtain ⟨la, lc, rfl⟩ := hlr.form
      have hslen := hpok.len
      simp [Mz.cell, -newP_some, -storeW_ptr, -zero_34, -zero_116, -zero_111]
      refine join_of fun J64 hJ64 => ?_
      have key64 : ∀ z3 lv3, Bel w z3 → hp z3 r8 = some (.cells #[.slice none 0 0, .slice none 0 0] 111) → hp z3 r12 = some (.cells #[.int .u32 ((look (prOf x.it.key) ps.ahead).getD (0, 0)).1, .int .u32 ((look (prOf x.it.key) ps.ahead).getD (0, 0)).2] 34) →
          PlR z3 w.heap.size q (.slice sa ps.steps.length sc) lv3 ps.steps ((opened limit first ps.seals x.it).1 ++ [(opened limit first ps.seals x.it).2]) → J64 [.int .i64 (((opened limit first ps.seals x.it).1.length + 1 : Nat) : Int)] z3 := by
        clear hlr hkr hal hJ56 hstin
        unfold layP at hlay
        generalize (opened limit first ps.seals x.it).1 = ini at o1 o2 hlay ⊢
        generalize (opened limit first ps.seals x.it).2 = sl at o3 o4 o5 o6 o7 o8 o9 hlay ⊢
        intro z3 lv3 hB3 c83 c123 M3
        refine hJ64 _ _ ?_
        obtain ⟨g, cap, rest, rfl, hg, hfl, hBg, hfin'⟩ := M3.sl.last encSl_ok
        have e1 : IntKind.i64.wrap (ini.length : Int) = (ini.length : Int) := i64_nat (by omega)
        simp [M3.cell, e1, -newP_some, -storeW_ptr, -zero_34, -zero_116, -zero_111]
        refine (idxR (T := 68) (k := 5) (by kernel_rfl) (i := ini.length) (Nat.lt_succ_self _)).2 ?_
        rw [Nat.zero_add]
        have hat0 : At z3 g (0 + ini.length * 5) (encSl sl) := ⟨_, _, _, hg, fun j y hy => by
          have hj := (List.getElem?_eq_some_iff.1 hy).1
          simp only [List.getElem?_toArray]
          rw [List.getElem?_append_right (by omega), show 0 + ini.length * 5 + j - (ini.flatMap encSl).length = j by omega, List.getElem?_append_left hj, hy]⟩
        rw [Nat.zero_add] at hat0
        have hload := hat0.cells0 5 (by decide) (by simp [encSl])
        refine ⟨.agg (encSl sl).toArray, by simp only [loadW_ptr, shape_116, ldSh_agg, hload]; rfl, ?_⟩
        refine newL zero_116 fun r16 z4 b4 hle16 hlt16 c16 => ?_
        refine st116 c16 ?_
        have c16 : hp (upd z4 r16 (.cells (encSl sl).toArray 116)) r16 = some (.cells (encSl sl).toArray 116) := by simp [c16]
        have b4 : Bel z3 (upd z4 r16 (.cells (encSl sl).toArray 116)) := bu b4 hle16 _
        generalize upd z4 r16 (.cells (encSl sl).toArray 116) = z5 at c16 b4 ⊢
        clear hlt16
        have hgl := hp_lt hg
        have hg16 : r16 ≠ g := by omega
        have M5 := M3.bel b4
        have hg := bg b4 hg
        have c85 := bg b4 c83
        have c125 := bg b4 c123
        have hB5 := bt hB3 b4
        have hq16 : r16 ≠ q := by have := hp_lt M3.cell; omega
        have h816 : r16 ≠ r8 := by have := hp_lt c83; omega
        have hq8 := hne8
        simp [M5.cell, c16, encSl, c125, -newP_some, -storeW_ptr, -zero_34, -zero_116, -zero_111]
        have hx6 := bx' z5 [.cells #[.int .i64 (i : Nat), .int .u32 sl.id, .int .u32 sl.size, .int .u32 ((look (prOf x.it.key) ps.ahead).getD (0, 0)).1, .int .u32 ((look (prOf x.it.key) ps.ahead).getD (0, 0)).2] 119]
        have g6 := hp_new z5 (.cells #[.int .i64 (i : Nat), .int .u32 sl.id, .int .u32 sl.size, .int .u32 ((look (prOf x.it.key) ps.ahead).getD (0, 0)).1, .int .u32 ((look (prOf x.it.key) ps.ahead).getD (0, 0)).2] 119)
        have M6 := M5.bel hx6
        have hg := bg hx6 hg
        have c86 := bg hx6 c85
        have c16 := bg hx6 c16
        have hB6 := bt hB5 hx6
        generalize ext z5 [.cells #[.int .i64 (i : Nat), .int .u32 sl.id, .int .u32 sl.size, .int .u32 ((look (prOf x.it.key) ps.ahead).getD (0, 0)).1, .int .u32 ((look (prOf x.it.key) ps.ahead).getD (0, 0)).2] 119] = z6 at g6 M6 hg c86 c16 hB6 ⊢
        refine app row109 encSp_ok M6.st (x := ⟨i, (sl.id, sl.size), (look (prOf x.it.key) ps.ahead).getD (0, 0)⟩) g6 rfl (by omega) (by simp only [maxLen]; omega) hB6.size fun v' z7 ho7 hg7 hv7 => ?_
        have nq := M6.st.ne M6.cell (by intro cur e; injection e with _ e; cases e)
        have ng := M6.st.ne hg (by intro cur e; injection e with _ e; cases e)
        have n8 := M6.st.ne c86 (by intro cur e; injection e with _ e; cases e)
        have n16 := M6.st.ne c16 (by intro cur e; injection e with _ e; cases e)
        have q7 := grown_hp hg7 M6.cell nq
        have hg := grown_hp hg7 hg ng
        have c87 := grown_hp hg7 c86 n8
        have c167 := grown_hp hg7 c16 n16
        have hB7 : Bel w z7 := grown_bel hg7 hB6 fun g hg => (M6.st.ge hg).1
        obtain ⟨va', vc', hvf'⟩ := (ho7.rd encSp_ok).form
        have hcv : v'.cells = #[v'] ∧ flatV v' = true := by rw [hvf']; exact ⟨rfl, rfl⟩
        have nv : ∀ {b : Nat} {o : Obj}, hp z7 b = some o → (∀ cur, o ≠ .cells cur 119 (0, 0)) → v'.ownBlock ≠ some b := fun hb hh e => ho7.ne hb hh e.symm
        have nvq := nv q7 (by intro cur e; injection e with _ e; cases e)
        have nvg := nv hg (by intro cur e; injection e with _ e; cases e)
        have nv16 := nv c167 (by intro cur e; injection e with _ e; cases e)
        have hqg : g ≠ q := by rintro rfl; rw [hg] at q7; injection q7 with q7; injection q7 with _ q7; cases q7
        have h8g : g ≠ r8 := by rintro rfl; rw [hg] at c87; injection c87 with c87; injection c87 with _ c87; cases c87
        refine stC (A := []) (c := [.slice sa ps.steps.length sc, .slice (some ⟨g, 0, none⟩) (ini.length + 1) cap]) (j := 0) q7 rfl (by simp) size_109 hcv.1 hcv.2 ?_
        have q8 : hp (upd z7 q (.cells ([] ++ [Value.slice sa ps.steps.length sc, Value.slice (some ⟨g, 0, none⟩) (ini.length + 1) cap].set 0 v').toArray 111)) q = some (.cells #[v', .slice (some ⟨g, 0, none⟩) (ini.length + 1) cap] 111) := by simp [q7]
        have hg := (upd_ne z7 q g (.cells ([] ++ [Value.slice sa ps.steps.length sc, Value.slice (some ⟨g, 0, none⟩) (ini.length + 1) cap].set 0 v').toArray 111) hqg).trans hg
        have c88 := (upd_ne z7 q r8 (.cells ([] ++ [Value.slice sa ps.steps.length sc, Value.slice (some ⟨g, 0, none⟩) (ini.length + 1) cap].set 0 v').toArray 111) hq8).trans c87
        have c168 := (upd_ne z7 q r16 (.cells ([] ++ [Value.slice sa ps.steps.length sc, Value.slice (some ⟨g, 0, none⟩) (ini.length + 1) cap].set 0 v').toArray 111) hq16).trans c167
        have ho8 : Own (upd z7 q (.cells ([] ++ [Value.slice sa ps.steps.length sc, Value.slice (some ⟨g, 0, none⟩) (ini.length + 1) cap].set 0 v').toArray 111)) _ _ _ _ _ _ := ho7.kept fun b hb => upd_ne _ _ _ _ (by rintro rfl; exact nvq hb)
        have hB8 : Bel w (upd z7 q (.cells ([] ++ [Value.slice sa ps.steps.length sc, Value.slice (some ⟨g, 0, none⟩) (ini.length + 1) cap].set 0 v').toArray 111)) := bu hB7 M3.ge _
        generalize upd z7 q (.cells ([] ++ [Value.slice sa ps.steps.length sc, Value.slice (some ⟨g, 0, none⟩) (ini.length + 1) cap].set 0 v').toArray 111) = z8 at q8 hg c88 c168 ho8 hB8 ⊢
        have hd8 := bd (br z8)
        refine drawn' (St0 := Bel z8) hd8 fun St hS => ?_
        have hSu := (hS z8.drew).2 hd8
        rw [readP_iff (fun a ha' => bg ((hS a).1 ha') c168) hSu]
        simp [-newP_some, -storeW_ptr, -zero_34, -zero_116, -zero_111]
        rw [show (encSl sl)[1]? = some (.int .u32 sl.size) from rfl]
        refine (getO_some _ _).2 ?_
        refine (idxR (T := 105) (k := 4) (by kernel_rfl) h6).2 ?_
        rw [← hoi]
        simp [-newP_some, -storeW_ptr, -zero_34, -zero_116, -zero_111]
        refine ⟨.int .i64 x.it.size, fun a ha' => ?_, ?_⟩
        · have := (hati.bel (bt hB8 ((hS a).1 ha'))).cell 3 (by simp [encIm])
          simp only [loadW_ptr, shape_3, ldSh_one, this]; rfl
        simp [-newP_some, -storeW_ptr, -zero_34, -zero_116, -zero_111]
        have e7 : (sl.size + x.it.size) % 4294967296 = sl.size + x.it.size := by omega
        have e8 : (sl.many + 1) % 4294967296 = sl.many + 1 := by omega
        rw [e7]
        have q8 := bg hd8 q8
        have hg := bg hd8 hg
        have c88 := bg hd8 c88
        have c168 := bg hd8 c168
        have ho8 := ho8.bel hd8
        have hB8 := bt hB8 hd8
        generalize z8.drew = z9 at q8 hg c88 c168 ho8 hB8 ⊢
        refine stC (A := []) (c := encSl sl) (j := 1) (by simpa [encSl] using c168) (by simp) (by simp [encSl]) size_32 rfl rfl ?_
        rw [show [] ++ (encSl sl).set 1 (.int .u32 (sl.size + x.it.size)) = encSl ⟨sl.id, sl.size + x.it.size, sl.many, sl.first, sl.last⟩ from rfl]
        have c169 : hp (upd z9 r16 (.cells (encSl ⟨sl.id, sl.size + x.it.size, sl.many, sl.first, sl.last⟩).toArray 116)) r16 = some (.cells (encSl ⟨sl.id, sl.size + x.it.size, sl.many, sl.first, sl.last⟩).toArray 116) := by simp [c168]
        rw [c169]
        simp only [cellOf_cells, List.getElem?_toArray]
        refine (getO_some (.int .u32 sl.many) _).2 ?_
        refine (pure_add _ _ _ _ _ _).2 ?_
        rw [wrap_u32, e8]
        refine stC (A := []) (c := encSl ⟨sl.id, sl.size + x.it.size, sl.many, sl.first, sl.last⟩) (j := 2) c169 (by simp) (by simp [encSl]) size_32 rfl rfl ?_
        rw [show [] ++ (encSl ⟨sl.id, sl.size + x.it.size, sl.many, sl.first, sl.last⟩).set 2 (.int .u32 (sl.many + 1)) = encSl ⟨sl.id, sl.size + x.it.size, sl.many + 1, sl.first, sl.last⟩ from rfl, upd_upd]
        have c169 : hp (upd z9 r16 (.cells (encSl ⟨sl.id, sl.size + x.it.size, sl.many + 1, sl.first, sl.last⟩).toArray 116)) r16 = some (.cells (encSl ⟨sl.id, sl.size + x.it.size, sl.many + 1, sl.first, sl.last⟩).toArray 116) := by simp [c168]
        have hB9 : Bel w (upd z9 r16 (.cells (encSl ⟨sl.id, sl.size + x.it.size, sl.many + 1, sl.first, sl.last⟩).toArray 116)) := bu hB8 (by have := hB3.size; omega) _
        refine (idxR (T := 105) (k := 4) (by kernel_rfl) h6).2 ?_
        rw [← hoi]
        have hseq := (hati.bel hB9).cell 1 (by simp [encIm])
        simp [hseq, encIm, -newP_some, -storeW_ptr, -zero_34, -zero_116, -zero_111]
        refine stC (A := []) (c := encSl ⟨sl.id, sl.size + x.it.size, sl.many + 1, sl.first, sl.last⟩) (j := 4) c169 (by simp) (by simp [encSl]) size_35 rfl rfl ?_
        rw [show [] ++ (encSl ⟨sl.id, sl.size + x.it.size, sl.many + 1, sl.first, sl.last⟩).set 4 (.int .u64 x.it.seq) = encSl ⟨sl.id, sl.size + x.it.size, sl.many + 1, sl.first, x.it.seq⟩ from rfl, upd_upd]
        have c16a : hp (upd z9 r16 (.cells (encSl ⟨sl.id, sl.size + x.it.size, sl.many + 1, sl.first, x.it.seq⟩).toArray 116)) r16 = some (.cells (encSl ⟨sl.id, sl.size + x.it.size, sl.many + 1, sl.first, x.it.seq⟩).toArray 116) := by simp [c168]
        have qa := (upd_ne z9 r16 q (.cells (encSl ⟨sl.id, sl.size + x.it.size, sl.many + 1, sl.first, x.it.seq⟩).toArray 116) hq16.symm).trans q8
        have hga := (upd_ne z9 r16 g (.cells (encSl ⟨sl.id, sl.size + x.it.size, sl.many + 1, sl.first, x.it.seq⟩).toArray 116) hg16.symm).trans hg
        have c8a := (upd_ne z9 r16 r8 (.cells (encSl ⟨sl.id, sl.size + x.it.size, sl.many + 1, sl.first, x.it.seq⟩).toArray 116) h816.symm).trans c88
        have hoa : Own (upd z9 r16 (.cells (encSl ⟨sl.id, sl.size + x.it.size, sl.many + 1, sl.first, x.it.seq⟩).toArray 116)) _ _ _ _ _ _ := ho8.kept fun b hb => upd_ne _ _ _ _ (by rintro rfl; exact nv16 hb)
        have hBa : Bel w (upd z9 r16 (.cells (encSl ⟨sl.id, sl.size + x.it.size, sl.many + 1, sl.first, x.it.seq⟩).toArray 116)) := bu hB8 (by have := hB3.size; omega) _
        generalize upd z9 r16 (.cells (encSl ⟨sl.id, sl.size + x.it.size, sl.many + 1, sl.first, x.it.seq⟩).toArray 116) = za at c16a qa hga c8a hoa hBa ⊢
        rw [qa]
        simp [-newP_some, -storeW_ptr, -zero_34, -zero_116, -zero_111]
        refine ⟨.agg (encSl ⟨sl.id, sl.size + x.it.size, sl.many + 1, sl.first, x.it.seq⟩).toArray, by rw [c16a]; rfl, ?_⟩
        refine (idxR (T := 68) (k := 5) (by kernel_rfl) (i := ini.length) (Nat.lt_succ_self _)).2 ?_
        rw [Nat.zero_add]
        refine stL5 hga (by omega) ?_
        rw [e6 (by omega)]
        refine ⟨⟨i + 1, rfl, h6, bu hBa hBg _, ?_, v', .slice (some ⟨g, 0, none⟩) (ini.length + 1) cap, ?_⟩, by simp [n0]; omega⟩
        · rw [upd_ne _ _ _ _ h8g.symm]; exact c8a
        · rw [hlay]
          refine ⟨?_, ?_, hfin' _ _ (by simp [hga]), M3.ge⟩
          · rw [upd_ne _ _ _ _ hqg.symm]; exact qa
          · exact hoa.kept fun b hb => upd_ne _ _ _ _ (by rintro rfl; exact nvg hb)
      refine join_of fun J65 hJ65 => ?_
      have key65 : ∀ (bb : Bool) z2, Bel z z2 → (bb = true ↔ (ps.seals = [] ∨ ∃ l, ps.seals.getLast? = some l ∧ limit < l.size + x.it.size)) → J65 [.bool bb] z2 := by
        intro bb z2 h12 hbb
        refine hJ65 _ _ ?_
        have M2 := Mz.bel h12
        have c82 := bg h12 c3z
        have c122 := bg h12 cz
        have hw2 := bt hwz h12
        simp [-newP_some, -storeW_ptr, -zero_34, -zero_116, -zero_111]
        refine ifB (fun h => ?_) (fun h => ?_)
        · have hbb := hbb.1 h
          have e1 : (first + (ps.seals.length : Int)) % 4294967296 = first + (ps.seals.length : Int) := by omega
          have e2 : IntKind.i64.wrap ((ps.seals.length : Int) + 1) = ((ps.seals.length + 1 : Nat) : Int) := e6 (by omega)
          have hop : opened limit first ps.seals x.it = (ps.seals, ⟨first + ps.seals.length, 16, 0, x.it.seq, 0⟩) := by
            unfold opened
            rcases hbb with hbb | ⟨l, hl, hlt⟩
            · rw [hbb]; simp
            · rw [hl]; simp [hlt]
          rw [hop] at key64
          have hd2 := bd (br z2)
          have M2d := M2.bel hd2
          have hw2d := bt hw2 hd2
          refine drawn' (St0 := fun a => hp a q = some (.cells #[.slice sa ps.steps.length sc, .slice la ps.seals.length lc] 111) ∧ Bel w a) ⟨M2d.cell, hw2d⟩ fun St hS => ?_
          have hSu := (hS z2.drew).2 ⟨M2d.cell, hw2d⟩
          rw [readP_iff (fun a ha' => ((hS a).1 ha').1) hSu]
          simp [-newP_some, -storeW_ptr, -zero_34, -zero_116, -zero_111]
          refine (idxR (T := 105) (k := 4) (by kernel_rfl) h6).2 ?_
          rw [← hoi]
          simp [-newP_some, -storeW_ptr, -zero_34, -zero_116, -zero_111]
          refine ⟨.int .u64 x.it.seq, fun a ha' => ?_, ?_⟩
          · have := (hati.bel ((hS a).1 ha').2).cell 1 (by simp [encIm])
            simp only [loadW_ptr, shape_35, ldSh_one, this]; rfl
          simp [-newP_some, -storeW_ptr, -zero_34, -zero_116, -zero_111]
          rw [e1, e2]
          have hx3 := bx' z2.drew [.cells #[.int .u32 (first + (ps.seals.length : Int)), .int .u32 16, .int .u32 0, .int .u64 x.it.seq, .int .u64 0] 116]
          have g3 := hp_new z2.drew (.cells #[.int .u32 (first + (ps.seals.length : Int)), .int .u32 16, .int .u32 0, .int .u64 x.it.seq, .int .u64 0] 116)
          rw [show z2.drew.heap.size = z2.heap.size from rfl] at g3
          have M3 := M2d.bel hx3
          have c83 := bg hx3 (bg hd2 c82)
          have c123 := bg hx3 (bg hd2 c122)
          have hB3 := bt hw2d hx3
          generalize ext z2.drew [.cells #[.int .u32 (first + (ps.seals.length : Int)), .int .u32 16, .int .u32 0, .int .u64 x.it.seq, .int .u64 0] 116] = z3 at g3 M3 c83 c123 hB3 ⊢
          refine ⟨(hS _).2 ⟨M3.cell, hB3⟩, ?_⟩
          refine app row68 encSl_ok M3.sl (x := ⟨first + ps.seals.length, 16, 0, x.it.seq, 0⟩) g3 rfl (by omega) (by simp only [maxLen]; omega) hB3.size fun v' z4 ho' hg' hv' => ?_
          have nq := M3.sl.ne M3.cell (by intro cur e; injection e with _ e; cases e)
          have n8 := M3.sl.ne c83 (by intro cur e; injection e with _ e; cases e)
          have n12 := M3.sl.ne c123 (by intro cur e; injection e with _ e; cases e)
          have q4 := grown_hp hg' M3.cell nq
          have c84 := grown_hp hg' c83 n8
          have c124 := grown_hp hg' c123 n12
          have hB4 : Bel w z4 := grown_bel hg' hB3 fun g hg => (M3.sl.ge hg).1
          refine ⟨(hS _).2 ⟨q4, hB4⟩, ?_⟩
          obtain ⟨va', vc', hvf'⟩ := (ho'.rd encSl_ok).form
          have hcv : v'.cells = #[v'] ∧ flatV v' = true := by rw [hvf']; exact ⟨rfl, rfl⟩
          have st4 : Own z4 w.heap.size 119 5 encSp (.slice sa ps.steps.length sc) ps.steps := M3.st.aside M3.sl (by decide) hg'
          have nq' : v'.ownBlock ≠ some q := by
            intro e
            obtain ⟨cur, hc⟩ := ho'.row e
            rw [q4] at hc; injection hc with hc; injection hc with _ hc; cases hc
          have nqs : (Value.slice sa ps.steps.length sc).ownBlock ≠ some q := by
            intro e
            obtain ⟨cur, hc⟩ := st4.row e
            rw [q4] at hc; injection hc with hc; injection hc with _ hc; cases hc
          have nq12 : r12 ≠ q := by rintro rfl; rw [q4] at c124; injection c124 with c124; injection c124 with _ c124; cases c124
          refine stC (A := []) (c := [.slice sa ps.steps.length sc, .slice la ps.seals.length lc]) (j := 1) q4 rfl (by simp) size_68 hcv.1 hcv.2 ?_
          refine key64 _ v' (bu hB4 M3.ge _) ?_ ?_ ⟨by simp [q4], ?_, ?_, M3.ge⟩
          · rw [upd_ne _ _ _ _ hne8]; exact c84
          · rw [upd_ne _ _ _ _ nq12]; exact c124
          · exact st4.kept fun g hg => upd_ne _ _ _ _ (by rintro rfl; exact nqs hg)
          · exact ho'.kept fun g hg => upd_ne _ _ _ _ (by rintro rfl; exact nq' hg)
        · have hbb : ¬ (ps.seals = [] ∨ ∃ l, ps.seals.getLast? = some l ∧ limit < l.size + x.it.size) := fun hh => by rw [hbb.2 hh] at h; cases h
          have hne : ps.seals ≠ [] := fun e => hbb (.inl e)
          have hgl := List.getLast?_eq_some_getLast hne
          have hop : opened limit first ps.seals x.it = (ps.seals.dropLast, ps.seals.getLast hne) := by
            unfold opened
            rw [hgl]
            have : ¬ limit < (ps.seals.getLast hne).size + x.it.size := fun hh => hbb (.inr ⟨_, hgl, hh⟩)
            simp [this]
          rw [hop] at key64
          have hdl := List.dropLast_concat_getLast hne
          have hlen : ps.seals.dropLast.length + 1 = ps.seals.length := by
            have := congrArg List.length hdl
            simpa using this
          dsimp only at key64
          rw [hdl, hlen] at key64
          exact key64 z2 _ hw2 c82 c122 M2
      have hdz := bd (br z)
      refine drawn' (St0 := Bel z) hdz fun St hS => ?_
      have hSu := (hS z.drew).2 hdz
      refine ifD (fun h => ?_) (fun h => ?_)
      · have : ps.seals = [] := by first | exact h | exact List.eq_nil_of_length_eq_zero (by omega)
        exact key65 true _ hdz (by simp [this])
      · have hne : ps.seals ≠ [] := by first | exact h | (intro e; rw [e] at h; simp at h)
        have hpos : 0 < ps.seals.length := List.length_pos_iff.2 hne
        have hgl := List.getLast?_eq_some_getLast hne
        have hget : ps.seals[ps.seals.length - 1]? = some (ps.seals.getLast hne) := by rw [← List.getLast?_eq_getElem?]; exact hgl
        rw [readP_iff (fun a ha' => bg ((hS a).1 ha') Mz.cell) hSu]
        have e2 : IntKind.i64.wrap ((ps.seals.length : Int) - 1) = ((ps.seals.length - 1 : Nat) : Int) := by rw [wrap_i64 (by omega) (by omega)]; omega
        simp [e2, -newP_some, -storeW_ptr, -zero_34, -zero_116, -zero_111]
        obtain ⟨b2, o2', c3', ⟨off2, ho2, hsl2⟩, hat2⟩ := hlr.at hget
        injection hsl2 with hsl2 _ _
        subst hsl2
        have hml := hpok.sl _ (List.getLast_mem hne)
        refine (idxR (T := 68) (k := 5) (by kernel_rfl) (i := ps.seals.length - 1) (by omega)).2 ?_
        rw [← ho2]
        simp [-newP_some, -storeW_ptr, -zero_34, -zero_116, -zero_111]
        refine ⟨.int .u32 (ps.seals.getLast hne).size, fun a ha' => ?_, ?_⟩
        · have := (hat2.bel ((hS a).1 ha')).cell 1 (by simp [encSl])
          simp only [loadW_ptr, shape_32, ldSh_one, this]; rfl
        simp [-newP_some, -storeW_ptr, -zero_34, -zero_116, -zero_111]
        refine (idxR (T := 105) (k := 4) (by kernel_rfl) h6).2 ?_
        rw [← hoi]
        simp [-newP_some, -storeW_ptr, -zero_34, -zero_116, -zero_111]
        refine ⟨.int .i64 x.it.size, fun a ha' => ?_, ?_⟩
        · have := (hati.bel (bt hwz ((hS a).1 ha'))).cell 3 (by simp [encIm])
          simp only [loadW_ptr, shape_3, ldSh_one, this]; rfl
        simp [-newP_some, -storeW_ptr, -zero_34, -zero_116, -zero_111]
        have e3 : IntKind.i64.wrap (IntKind.i64.wrap (ps.seals.getLast hne).size + x.it.size) = (ps.seals.getLast hne).size + x.it.size := by
          rw [wrap_i64 (n := (ps.seals.getLast hne).size) (by omega) (by omega), wrap_i64 (by omega) (by omega)]
        rw [e3]
        refine key65 _ _ hdz ?_
        rw [decide_eq_true_eq]
        constructor
        · intro hh; exact .inr ⟨_, hgl, hh⟩
        · rintro (hh | ⟨l, hl, hh⟩)
          · exact absurd hh hne
          · rw [hgl] at hl; injection hl with hl; subst hl; exact hh
    refine (idxR (T := 105) (k := 4) (by kernel_rfl) h6).2 ?_
    rw [← hoi]
    have hkd := (hati.bel hwz).cell 2 (by simp [encIm])
    simp [hkd, encIm, -newP_some, -storeW_ptr, -zero_34, -zero_116, -zero_111]
    refine ifD (fun h9 => ?_) (fun h9 => ?_)
    · rw [decide_eq_false (by omega), Bool.false_or] at hkr
      refine ifB (fun h10 => ?_) (fun h10 => ?_)
      · have h10 : (look (prOf x.it.key) ps.ahead).isSome = false := by simpa using h10
        rw [h10] at hkr
        obtain ⟨i1, s1, l1, e1, e2⟩ := skip z hwz c3z Mz hkr
        exact ⟨⟨i1, by simpa using e1, e2.1, e2.2.1, e2.2.2.1, s1, l1, e2.2.2.2⟩, by rw [e6 (by omega)]; simp [n0]; omega⟩
      · have h10 : (look (prOf x.it.key) ps.ahead).isSome = true := by simpa using h10
        exact key56 (by rw [hkr, h10])
    · exact key56 (by rw [hkr, decide_eq_true (by omega), Bool.true_or])
  · obtain rfl : i = ims.length := by omega
    obtain ⟨n, hn, hpok⟩ := layTo_ok (first := first) hmp at_ (limit := limit) (by omega) ims.length (by rw [hil]; exact Nat.le_refl _)
    generalize layTo (ims.map Im.it) at_ limit first ims.length = ps at M hplan hpok
    have hslr := M.sl.rd encSl_ok
    have hstr := M.st.rd encSp_ok
    obtain ⟨la, lc, rfl⟩ := hslr.form
    obtain ⟨sa, sc, rfl⟩ := hstr.form
    have hlen := hpok.len
    simp [M.cell, c3]
    have full : fullP ps = true → readW Pg (Instr.loadAt 111 (.pointer (some ⟨r8, 0, none⟩))) (upd y r8 (.cells #[.slice none 0 0, .slice none 0 0] 111)) fun r0 => R (.tuple #[r0, .int .i64 7]) (upd y r8 (.cells #[.slice none 0 0, .slice none 0 0] 111)) := fun hf =>
      hfin _ _ _ _ (by simp [c3]) (err _ 7 (bu hy hle8 _) (by rw [hplan, if_pos hf]))
    have good : fullP ps = false → readW Pg (Instr.loadAt 111 (.pointer (some ⟨r8, 0, none⟩))) (upd y r8 (.cells #[.slice sa ps.steps.length sc, .slice la ps.seals.length lc] 111)) fun r0 => R (.tuple #[r0, .int .i64 0]) (upd y r8 (.cells #[.slice sa ps.steps.length sc, .slice la ps.seals.length lc] 111)) := fun hf => by
      refine hfin _ (.slice sa ps.steps.length sc) (.slice la ps.seals.length lc) _ (by simp [c3]) ?_
      have hkeep : ∀ {α : Type} {B E k : Nat} {enc : α → List Value} {v : Value} {l : List α}, Own y B E k enc v l → E ≠ 111 → Own (upd y r8 (.cells #[.slice sa ps.steps.length sc, .slice la ps.seals.length lc] 111)) B E k enc v l := fun ho hE => ho.kept fun b hb => upd_ne _ _ _ _ (by
        rintro rfl
        obtain ⟨cur, hc⟩ := ho.row hb
        rw [c3] at hc; injection hc with hc; injection hc with _ hc; exact hE hc.symm)
      have := hR (upd y r8 (.cells #[.slice sa ps.steps.length sc, .slice la ps.seals.length lc] 111)) (.slice sa ps.steps.length sc) (.slice la ps.seals.length lc) (bu hy hle8 _)
      rw [hplan, if_neg (by rw [hf]; decide)] at this
      exact this ((hkeep M.st (by decide)).rd encSp_ok) ((hkeep M.sl (by decide)).rd encSl_ok)
    refine ifD (fun h7 => full ?_) (fun h7 => ?_)
    · unfold fullP; rw [decide_eq_true (by omega), Bool.true_or]
    refine ifD (fun h8 => ?_) (fun h8 => ?_)
    · have hne : ps.seals ≠ [] := by intro e; rw [e] at h8; simp at h8
      have hgl := List.getLast?_eq_some_getLast hne
      have hget : ps.seals[ps.seals.length - 1]? = some (ps.seals.getLast hne) := by rw [← List.getLast?_eq_getElem?]; exact hgl
      have e2 : IntKind.i64.wrap ((ps.seals.length : Int) - 1) = ((ps.seals.length - 1 : Nat) : Int) := by rw [wrap_i64 (by omega) (by omega)]; omega
      obtain ⟨b2, o2, c4, ⟨off2, ho2, hsl2⟩, hat2⟩ := hslr.at hget
      injection hsl2 with hsl2 _ _
      subst hsl2
      rw [e2, idxR (T := 68) (k := 5) (by kernel_rfl) (by omega), ← ho2]
      simp [hat2.cell0, encSl]
      refine ifD (fun h9 => full ?_) (fun h9 => good ?_)
      · unfold fullP; rw [hgl]; simp [h9]
      · unfold fullP; rw [hgl]; simp [h9]; omega
    · have hne : ps.seals = [] := List.eq_nil_of_length_eq_zero (by omega)
      refine good ?_
      unfold fullP; rw [hne]; rfl
end Go.Proofs.Ytbcmoikpmmjlkaa
