/- The engine once more: some loads of a region that draws its order are not taken first, but come up where they may. -/
import Derived.Test.YtbcmoikpmmjlkaaE
namespace Go.Proofs.Ytbcmoikpmmjlkaa.Eng
open Go
/-- An operation whose result is among those that are not taken first. -/
def late (ops : Array Oper) (ex : List Nat) (i : Nat) : Bool := match getOp ops i with | some o => (match o.dst with | some d => isIn ex d | none => false) | none => false
def drawGo2 (ex : List Nat) (P : Program) (N : Nat) (ops : Array Oper) (St : World → Prop) : Nat → Nat → Bool → Nat → Env → World → (Env → World → Prop) → Prop
  | 0, _, _, _, _, _, _ => False
  | f + 1, m, kn, listed, e, w, K =>
    match readyL ops listed with
    | [] => K e w
    | rd => match rd.findSome? (asks ops e) with
      | some (t, v) => ifV v (drawGo2 ex P N ops St f m kn listed (e.put t (.lit true)) w K) (drawGo2 ex P N ops St f m kn listed (e.put t (.lit false)) w K)
      | none => match m with
        | 0 => False
        | m + 1 => match rd.find? (fun i => takeable P ops kn listed e i && !late ops ex i) with
          | some i => match getOp ops i with
            | some o => takeE P N ops St o e (fun e' => drawGo2 ex P N ops St f m kn (Nat.lor listed (2 ^ i)) e' w K)
            | none => False
          | none => allP rd (fun i => match getOp ops i with
            | some o => stepE P false N ops o e w (fun e' w' => andIf (kn && keepS P ops i) (St w') (drawGo2 ex P N ops St f m (kn && keepS P ops i) (Nat.lor listed (2 ^ i)) e' w' K))
            | none => False)

def drawE2 (ex : List Nat) (P : Program) (N : Nat) (ops : Array Oper) (e : Env) (w : World) (K : Env → World → Prop) : Prop :=
  ∃ St : World → Prop, St w.drew ∧ drewP w fun w => bif Region.noSelect ops && P.follows .mixedOrders then drawGo2 ex P N ops St (3 * ops.size + 3) ops.size true 0 e w K else False

section drawsound2
variable {ex : List Nat} {P : Program} {N : Nat} {ops : Array Oper} {St : World → Prop}
theorem drawGo2_sound {Q : Exit → Act → World → Prop} {K : Env → World → Prop} {M : Nat → Prop} (hsel : Region.noSelect ops = true) (hQ : ∀ c (a : Act) d v w, Q (.panic c) (a.put d v) w → Q (.panic c) a w)
    (hM : ∀ (i : Nat) (o : Oper), ops[i]? = some o → ∀ n, o.dst = some n → M n) :
    ∀ (f m : Nat) (kn : Bool) (bs : Nat) (listed : Array Bool) (e : Env) (a : Act) (w : World), Bits ops.size bs listed → Rel N e a → (kn = true → St w) → (∀ e' a' w', Rel N e' a' → Same M a a' → K e' w' → Q .normal a' w') →
      drawGo2 ex P N ops St f m kn bs e w K → anyS P ops Q St kn m listed a w := by
  intro f
  induction f with
  | zero => intro m kn bs listed e a w _ _ _ _ h; exact h.elim
  | succ f ih =>
    intro m kn bs listed e a w hbits hr hS hK h
    unfold drawGo2 at h
    rw [readyL_eq hbits] at h
    split at h
    · rename_i hrd
      cases m with
      | zero => exact ⟨hrd, hK e a w hr (.refl _ _) h⟩
      | succ m => exact ⟨fun _ => hK e a w hr (.refl _ _) h, fun i hi => by rw [hrd] at hi; cases hi⟩
    · rename_i rd hne
      split at h
      · rename_i t v hask
        obtain ⟨b, rfl, h1, h2⟩ := h
        obtain ⟨i, _, hi⟩ := List.exists_of_findSome?_eq_some hask
        have hb : a.tmps.getD t undef = .bool b := by rw [hr.get t (by rw [asks_spec hi]; rfl), asks_spec hi]; rfl
        have hr' := hr.refine hb
        cases b with
        | true => exact ih m kn bs listed _ a w hbits hr' hS hK (h1 rfl)
        | false => exact ih m kn bs listed _ a w hbits hr' hS hK (h2 rfl)
      · split at h
        · exact h.elim
        · rename_i m
          split at h
          · rename_i i hi
            rw [getOp_eq] at h
            have hmem := List.mem_of_find?_eq_some hi
            have htk0 := List.find?_some hi
            have htk := (Bool.and_eq_true_iff.1 htk0).1
            split at h
            · rename_i o ho
              obtain ⟨s, v, hrel, hy, hk⟩ := takeE_spec hr h
              have hi' : i < ops.size := (Array.getElem?_eq_some_iff.1 ho).1
              have htk' : keepS P ops i = true ∧ Region.free .any ops listed i = true ∧ (isRd P ops o e = true → kn = true) := by
                unfold takeable at htk
                rw [getOp_eq, ho] at htk
                simp only [Bool.and_eq_true] at htk
                refine ⟨htk.2.1, freeM_spec hbits ho htk.2.2, fun hrd => ?_⟩
                unfold isRd at hrd
                simp only [Bool.and_eq_true, decide_eq_true_eq] at hrd
                have h3 := htk.1
                rw [hrd.1, hrd.2] at h3
                cases hs : says ops o e with
                | yes => rw [hs] at h3; simpa [isNo] using h3
                | no => rw [hs] at hrd; cases hrd.1
                | unk => rw [hs] at hrd; cases hrd.1
                | ask t v => rw [hs] at hrd; cases hrd.1
              refine anyS_first (oi := o) (v := v) ho (Region.noSelect_spec hsel) (fun c a w => hQ c a o.dst v w) (isRd P ops o e) ?_ htk'.1 m kn listed a w (Region.free_spec ho htk'.2.1) hmem hy hS htk'.2.2 ?_
              · intro hrd
                unfold isRd at hrd
                simp only [Bool.and_eq_true, decide_eq_true_eq] at hrd
                unfold kindAt
                rw [getOp_eq, ho]
                exact hrd.2
              · exact ih m kn _ _ _ _ w (hbits.set hi') hrel hS (fun e' a' w' hr' hs' hk' => hK e' a' w' hr' ((Same.put a (hM i o ho) v).trans hs') hk') hk
            · exact h.elim
          · refine ⟨fun hh => absurd hh hne, fun i hi => ?_⟩
            have hstep := allP_mem h i hi
            obtain ⟨_, o, ho, _⟩ := ready_spec hi
            rw [getOp_eq, ho] at hstep
            refine wpOp_step ho hr (fun e' v w' hr' hk' => ?_) hstep
            have hs' := Same.put a (hM i o ho) v
            have hi' : i < ops.size := (Array.getElem?_eq_some_iff.1 ho).1
            unfold andIf at hk'
            cases hkn : (kn && keepS P ops i) with
            | true =>
              rw [hkn] at hk'
              exact ⟨fun _ => hk'.1, ih m _ _ _ _ _ w' (hbits.set hi') hr' (fun _ => hk'.1) (fun e'' a'' w'' hr'' hs'' hk'' => hK e'' a'' w'' hr'' (hs'.trans hs'') hk'') hk'.2⟩
            | false =>
              rw [hkn] at hk'
              exact ⟨fun hh => (by cases hh), ih m _ _ _ _ _ w' (hbits.set hi') hr' (fun hh => by cases hh) (fun e'' a'' w'' hr'' hs'' hk'' => hK e'' a'' w'' hr'' (hs'.trans hs'') hk'') hk'⟩

end drawsound2
/-- THE TRANSFORMER. 'inR': in a round of a range over a function. 'ann': at a loop: what is kept of the frame; at a sequence: that its first part's ways meet, and what is kept there. -/
def WPE2 (ex : List Nat) (P : Program) (N : Nat) (ann : Nat → Option (List Nat)) : Bool → Nat → Code → Env → World → Cont → (Nat → Cont) → Cont → Prop
  | _, _, .skip, e, w, kn, _, _ => kn e w
  | inR, i, .seq x y, e, w, kn, kx, kr =>
    match ann i with
    | none => WPE2 ex P N ann inR (i + 1) x e w (fun e' w' => WPE2 ex P N ann inR (i + 1 + nodes x) y e' w' kn kx kr) kx kr
    | some keep => bif noRange x then
        joinP (fun J => WPE2 ex P N ann inR (i + 1) x e w (fun e' w' => bif e'.has keep then J (e'.read keep) w' else False) kx kr)
          (fun vs w' => WPE2 ex P N ann inR (i + 1 + nodes x) y (e.havoc (dsts x) keep vs) w' kn kx kr)
      else False
  | inR, i, .cond c x y, e, w, kn, kx, kr =>
    match e.ev c with
    | .unk => False
    | .undf => False
    | .lit b => bif b then WPE2 ex P N ann inR (i + 1) x e w kn kx kr else WPE2 ex P N ann inR (i + 1 + nodes x) y e w kn kx kr
    | .val v => match c with
      | .tmp t => ifV v (WPE2 ex P N ann inR (i + 1) x (e.put t (.lit true)) w kn kx kr) (WPE2 ex P N ann inR (i + 1 + nodes x) y (e.put t (.lit false)) w kn kx kr)
      | _ => False
  | inR, i, .block id b, e, w, kn, kx, kr => WPE2 ex P N ann inR (i + 1) b e w kn (fun j e' w' => bif Nat.beq j id then kn e' w' else kx j e' w') kr
  | inR, i, .loop b, e, w, _, kx, kr =>
    match ann i with
    | none => False
    | some keep => bif noRange b && e.has keep then
        loopP (e.read keep) w (fun vs w' next => WPE2 ex P N ann inR (i + 1) b (e.havoc (dsts b) keep vs) w' (fun e'' w'' => bif e''.has keep then next (e''.read keep) w'' else False) kx kr)
      else False
  | _, _, .exit id, e, w, _, kx, _ => kx id e w
  | _, _, .ret, e, w, _, _, kr => kr e w
  | inR, _, .region _ ops draw, e, w, kn, _, _ => bif draw then (bif inR then False else drawE2 ex P N ops e w kn) else opsE P true N ops ops.toList e w kn
  | inR, i, .rangeFunc f ps assign body, e, w, kn, _, _ => bif !inR && (e.ev f).known && ps.toList.all (fun p => Nat.blt p N) then
      rangeP P ps.size (e.ev f).v w (fun args W next => match assignE N assign (roundEnv { e with ds := [] } ps.toList args) with
        | some e1 => WPE2 ex P N ann true (i + 1) body e1 W (fun _ W' => next W') (fun _ _ _ => False) (fun _ _ => False)
        | none => False) (fun W D => kn { e with ds := D :: e.ds } W)
    else False
  | _, _, _, _, _, _, _, _ => False

theorem WPE2_sound {ex : List Nat} {P : Program} {N : Nat} {ann : Nat → Option (List Nat)} : ∀ (c : Code) (ro : Option Nat) (n : Nat) (i : Nat) (e : Env) (a : Act) (w : World) (kn : Cont) (kx : Nat → Cont) (kr : Cont) (M : Nat → Prop) (Q : Exit → Act → World → Prop),
    (∀ m ∈ dsts c, M m) → Rel N e a →
    (∀ e' a' w', Rel N e' a' → (noRange c = true → Same M a a') → kn e' w' → Q .normal a' w') →
    (∀ id e' a' w', Rel N e' a' → (noRange c = true → Same M a a') → kx id e' w' → Q (.exit id) a' w') →
    (∀ e' a' w', Rel N e' a' → kr e' w' → Q .ret a' w') →
    WPE2 ex P N ann (inR ro) i c e w kn kx kr → c.wpIn (fence ro) n P Q a w := by
  intro c
  induction c with
  | skip => intro ro n i e a w kn kx kr M Q hM hr hn hx hret h; exact wpIn_skip (hn e a w hr (fun _ => .refl _ _) h)
  | exit id => intro ro n i e a w kn kx kr M Q hM hr hn hx hret h; exact wpIn_exit (hx id e a w hr (fun _ => .refl _ _) h)
  | ret => intro ro n i e a w kn kx kr M Q hM hr hn hx hret h; exact wpIn_ret (hret e a w hr h)
  | region id ops draw =>
    intro ro n i e a w kn kx kr M Q hM hr hn hx hret h
    have hM' : ∀ o ∈ ops.toList, ∀ n, o.dst = some n → M n := fun o ho n hn => hM n (List.mem_filterMap.2 ⟨o, ho, hn⟩)
    unfold WPE2 at h
    cases draw with
    | false =>
      simp only [cond_false] at h
      exact wpIn_region_list (opsE_sound ops.toList e a w hM' hr (fun e' a' w' hr' hs hk => hn e' a' w' hr' (fun _ => hs) hk) h)
    | true =>
      simp only [cond_true] at h
      cases ro with
      | some l => exact h.elim
      | none =>
        obtain ⟨St, hSt, h⟩ := h
        unfold drewP at h
        cases hb : (Region.noSelect ops && P.follows .mixedOrders) with
        | false => rw [hb] at h; exact h.elim
        | true =>
          rw [hb] at h
          obtain ⟨h1, h2⟩ := Bool.and_eq_true_iff.1 hb
          refine wpIn_wide.2 (Code.wp_mono (Q := fun ex a' w' => (∃ ch, ex = .panic ch ∧ False) ∨ (ex = .normal ∧ Q .normal a' w')) (fun ex a' w' hq => ?_) (wp_region_any h2 (any_of_anyS true _ _ _ _ (drawGo2_sound (M := M) h1 ?_ ?_ _ _ true 0 _ e a _ (Bits.start _) hr (fun _ => hSt) ?_ h))))
          · rcases hq with ⟨_, _, h⟩ | ⟨rfl, hq⟩
            · exact h.elim
            · exact hq
          · intro c a d v w hq
            rcases hq with ⟨_, _, h⟩ | ⟨hh, _⟩
            · exact h.elim
            · cases hh
          · intro i o ho n hn
            exact hM' o (by obtain ⟨hlt, heq⟩ := Array.getElem?_eq_some_iff.1 ho; rw [← heq]; exact Array.getElem_mem_toList hlt) n hn
          · intro e' a' w' hr' hs hk
            exact .inr ⟨rfl, hn e' a' w' hr' (fun _ => hs) hk⟩
  | seq x y ihx ihy =>
    intro ro n i e a w kn kx kr M Q hM hr hn hx hret h
    have hMx : ∀ m ∈ dsts x, M m := fun m hm => hM m (List.mem_append.2 (.inl hm))
    have hMy : ∀ m ∈ dsts y, M m := fun m hm => hM m (List.mem_append.2 (.inr hm))
    have hnx : noRange (x.seq y) = true → noRange x = true ∧ noRange y = true := fun h => Bool.and_eq_true_iff.1 h
    unfold WPE2 at h
    refine wpIn_seq ?_
    split at h
    · refine ihx ro n (i + 1) e a w _ kx kr M _ hMx hr ?_ ?_ ?_ h
      · intro e' a' w' hr' hs hk
        exact ihy ro n (i + 1 + nodes x) e' a' w' kn kx kr M Q hMy hr' (fun e'' a'' w'' hr'' hs' hk' => hn e'' a'' w'' hr'' (fun hh => (hs (hnx hh).1).trans (hs' (hnx hh).2)) hk')
          (fun id e'' a'' w'' hr'' hs' hk' => hx id e'' a'' w'' hr'' (fun hh => (hs (hnx hh).1).trans (hs' (hnx hh).2)) hk') (fun e'' a'' w'' hr'' hk' => hret e'' a'' w'' hr'' hk') hk
      · intro id e' a' w' hr' hs hk
        exact hx id e' a' w' hr' (fun hh => hs (hnx hh).1) hk
      · intro e' a' w' hr' hk
        exact hret e' a' w' hr' hk
    · rename_i keep _
      cases hnr : noRange x with
      | false => rw [hnr] at h; exact h.elim
      | true =>
        rw [hnr] at h
        obtain ⟨h⟩ := h
        refine ihx ro n (i + 1) e a w _ kx kr (· ∈ dsts x) _ (fun m hm => hm) hr ?_ ?_ ?_ h
        · intro e' a' w' hr' hs hk
          cases hh : e'.has keep with
          | false => rw [hh] at hk; exact hk.elim
          | true =>
            rw [hh] at hk
            have hs0 := hs hnr
            exact ihy ro n (i + 1 + nodes x) _ a' w' kn kx kr M Q hMy (hr.havoc hr' hs0 hh) (fun e'' a'' w'' hr'' hs' hk' => hn e'' a'' w'' hr'' (fun hh => (hs0.mono hMx).trans (hs' (hnx hh).2)) hk')
              (fun id e'' a'' w'' hr'' hs' hk' => hx id e'' a'' w'' hr'' (fun hh => (hs0.mono hMx).trans (hs' (hnx hh).2)) hk') (fun e'' a'' w'' hr'' hk' => hret e'' a'' w'' hr'' hk') hk
        · intro id e' a' w' hr' hs hk
          exact hx id e' a' w' hr' (fun _ => (hs hnr).mono hMx) hk
        · intro e' a' w' hr' hk
          exact hret e' a' w' hr' hk
  | cond c x y ihx ihy =>
    intro ro n i e a w kn kx kr M Q hM hr hn hx hret h
    have hMx : ∀ m ∈ dsts x, M m := fun m hm => hM m (List.mem_append.2 (.inl hm))
    have hMy : ∀ m ∈ dsts y, M m := fun m hm => hM m (List.mem_append.2 (.inr hm))
    have hnx : noRange (.cond c x y) = true → noRange x = true ∧ noRange y = true := fun h => Bool.and_eq_true_iff.1 h
    have goX : ∀ e', Rel N e' a → WPE2 ex P N ann (inR ro) (i + 1) x e' w kn kx kr → x.wpIn (fence ro) n P Q a w := fun e' hr' hh =>
      ihx ro n (i + 1) e' a w kn kx kr M Q hMx hr' (fun e'' a'' w'' hr'' hs' hk' => hn e'' a'' w'' hr'' (fun hh => hs' (hnx hh).1) hk') (fun id e'' a'' w'' hr'' hs' hk' => hx id e'' a'' w'' hr'' (fun hh => hs' (hnx hh).1) hk') hret hh
    have goY : ∀ e', Rel N e' a → WPE2 ex P N ann (inR ro) (i + 1 + nodes x) y e' w kn kx kr → y.wpIn (fence ro) n P Q a w := fun e' hr' hh =>
      ihy ro n (i + 1 + nodes x) e' a w kn kx kr M Q hMy hr' (fun e'' a'' w'' hr'' hs' hk' => hn e'' a'' w'' hr'' (fun hh => hs' (hnx hh).2) hk') (fun id e'' a'' w'' hr'' hs' hk' => hx id e'' a'' w'' hr'' (fun hh => hs' (hnx hh).2) hk') hret hh
    unfold WPE2 at h
    split at h
    · exact h.elim
    · exact h.elim
    · rename_i b hb
      have hc : a.eval c = .bool b := by rw [hr.ev (by rw [hb]; rfl)]; unfold Env.ρ; rw [hb]; rfl
      cases b with
      | true => exact wpIn_cond_true hc (goX e hr h)
      | false => exact wpIn_cond_false hc (goY e hr h)
    · rename_i v hv
      split at h
      · rename_i t
        obtain ⟨b, rfl, h1, h2⟩ := h
        have hb : a.tmps.getD t undef = .bool b := by rw [hr.get t (by show (e.get t).known = true; rw [show e.get t = _ from hv]; rfl), show e.get t = _ from hv]; rfl
        cases b with
        | true => exact wpIn_cond_true hb (goX _ (hr.refine hb) (h1 rfl))
        | false => exact wpIn_cond_false hb (goY _ (hr.refine hb) (h2 rfl))
      · exact h.elim
  | block id b ih =>
    intro ro n i e a w kn kx kr M Q hM hr hn hx hret h
    unfold WPE2 at h
    refine wpIn_block (ih ro n (i + 1) e a w kn _ kr M _ hM hr (fun e' a' w' hr' hs hk => hn e' a' w' hr' hs hk) ?_ (fun e' a' w' hr' hk => hret e' a' w' hr' hk) h)
    intro j e' a' w' hr' hs hk
    show (if j = id then Q .normal a' w' else Q (.exit j) a' w')
    cases hb : Nat.beq j id with
    | true =>
      rw [hb] at hk
      rw [if_pos (Nat.eq_of_beq_eq_true hb)]
      exact hn e' a' w' hr' hs hk
    | false =>
      rw [hb] at hk
      rw [if_neg (fun h => by subst h; simp at hb)]
      exact hx j e' a' w' hr' hs hk
  | loop b ih =>
    intro ro n i e a w kn kx kr M Q hM hr hn hx hret h
    unfold WPE2 at h
    split at h
    · exact h.elim
    · rename_i keep _
      cases hnr : noRange b && e.has keep with
      | false => rw [hnr] at h; exact h.elim
      | true =>
        rw [hnr] at h
        obtain ⟨hnb, hk0⟩ := Bool.and_eq_true_iff.1 hnr
        obtain ⟨I, μ, h0, hround⟩ := h
        refine wpIn_loop (fun a' w' => ∃ e', Rel N e' a' ∧ Same (· ∈ dsts b) a a' ∧ e'.has keep = true ∧ I (e'.read keep) w') (fun a' w' => μ (keep.map fun t => a'.tmps.getD t undef) w') ⟨e, hr, .refl _ _, hk0, h0⟩ ?_
        rintro a1 w1 ⟨e1, hr1, hs1, hk1, hI1⟩
        have hread : ∀ {e' : Env} {a' : Act}, Rel N e' a' → e'.has keep = true → (keep.map fun t => a'.tmps.getD t undef) = e'.read keep := fun {e' a'} hr' hk' =>
          List.map_congr_left fun t ht => hr'.get t (List.all_eq_true.1 hk' t ht)
        refine ih ro n (i + 1) _ a1 w1 _ kx kr (· ∈ dsts b) _ (fun m hm => hm) (hr.havoc hr1 hs1 hk1) ?_ ?_ ?_ (hround _ _ hI1)
        · intro e' a' w' hr' hs hk
          cases hh : e'.has keep with
          | false => rw [hh] at hk; exact hk.elim
          | true =>
            rw [hh] at hk
            refine ⟨⟨e', hr', hs1.trans (hs hnb), hh, hk.1⟩, ?_⟩
            rw [hread hr' hh, hread hr1 hk1]
            exact hk.2
        · intro id e' a' w' hr' hs hk
          exact hx id e' a' w' hr' (fun _ => (hs1.trans (hs hnb)).mono hM) hk
        · intro e' a' w' hr' hk
          exact hret e' a' w' hr' hk
  | rangeFunc f ps assign body iha ihb =>
    intro ro n i0 e a w kn kx kr M Q hM hr hn hx hret h
    unfold WPE2 at h
    cases hb : (!inR ro && (e.ev f).known && ps.toList.all fun p => Nat.blt p N) with
    | false => rw [hb] at h; exact h.elim
    | true =>
      rw [hb] at h
      obtain ⟨hb1, hps⟩ := Bool.and_eq_true_iff.1 hb
      obtain ⟨hro, hkf⟩ := Bool.and_eq_true_iff.1 hb1
      have hps' : ∀ p ∈ ps.toList, p < N := fun p hp => of_eq_true (Nat.blt_eq ▸ eq_true (List.all_eq_true.1 hps p hp))
      obtain rfl : ro = none := by cases ro with | none => rfl | some l => simp [inR] at hro
      obtain ⟨g, cap, Mem, J, xs, hfv, hent, hit, hlen, hmem, hJ0, hJst, hround, hdone⟩ := h
      have hef : a.eval f = .func (.func g) #[] cap := by rw [hr.ev hkf]; exact hfv
      refine wpIn_rangeFunc fun fn _ => ?_
      obtain ⟨rec, hrec⟩ : ∃ rec : LoopState → Option Code → Loop, rec = fun st pe => { state := st, pending := pe, fn, tmps := a.tmps, params := ps, assign, body, defers := w.heap.size } := ⟨_, rfl⟩
      obtain ⟨W1, hW1⟩ : ∃ W1, (w.alloc (.deferred (some []))).alloc (.loop (rec .ready none)) = W1 := ⟨_, rfl⟩
      have hs1 : W1.heap.size = w.heap.size + 2 := by rw [← hW1, alloc_size, alloc_size]
      have hL1 : W1.heap[w.heap.size + 1]? = some (.loop (rec .ready none)) := by rw [← hW1, ← alloc_size (W := w) (o := .deferred (some []))]; exact alloc_self
      have hD1 : W1.heap[w.heap.size]? = some (.deferred (some [])) := by rw [← hW1, alloc_ne (by rw [alloc_size]; omega)]; exact alloc_self
      have hB1 : SameBelow w.heap.size w W1 := ⟨by rw [← hW1]; rfl, by rw [← hW1]; rfl, by rw [← hW1]; rfl, by omega, fun b hb => by rw [← hW1, alloc_ne (by rw [alloc_size]; omega), alloc_ne hb]⟩
      refine ⟨w.heap.size + 1, [mark w.heap.size], W1, { target := .fn (.func g) cap, args := #[.func (.yield (w.heap.size + 1)) #[] #[]] }, W1, g, #[.func (.yield (w.heap.size + 1)) #[] #[]] ++ cap, W1, ?_, ?_, fun _ _ => trivial, ?_, fun hh => (by cases hh), ?_⟩
      · rw [show (fence none).round = none from rfl, run_enterLoop_outer, ← hW1, hrec]; rfl
      · have hrc : resolve a.eval (rangeCall f (w.heap.size + 1)) 0 = Deferred.ofValue (a.eval f) #[.func (.yield (w.heap.size + 1)) #[] #[]] := by
          simp only [resolve, List.map_toArray, List.map_cons, List.map_nil, Act.eval]
        rw [hrc, hef]; rfl
      · exact hent _ _
      · refine calls_fence (ro := none) ((hit (w.heap.size + 1) (fun i W => J i W ∧ W.heap[w.heap.size + 1]? = some (.loop (rec .ready none)) ∧ W.heap[w.heap.size]? = some (.deferred (some []))) W1 (fun i W hJ => hmem i W hJ.1) ?_ ?_ ?_).mono ?_)
        · rintro i V V' ⟨h1, h2, h3⟩ hbel
          exact ⟨hJst i V V' h1 (hbel.mono (by omega)), (hbel.block _ (by omega)).trans h2, (hbel.block _ (by omega)).trans h3⟩
        · rintro i x V hx ⟨h1, h2, h3⟩ hVs
          have hxl := hlen x (List.mem_of_getElem? hx)
          have hlt := (Array.getElem?_eq_some_iff.1 h2).1
          obtain ⟨Vb, hVb⟩ : ∃ Vb, V.putObj (w.heap.size + 1) (.loop { rec .ready none with state := .busy }) = Vb := ⟨_, rfl⟩
          have hVbs : Vb.heap.size = V.heap.size := by rw [← hVb]; exact putObj_size
          have hVbl : Vb.heap[w.heap.size + 1]? = some (.loop { rec .ready none with state := .busy }) := by rw [← hVb]; exact putObj_self h2
          have hVbn : ∀ b, b ≠ w.heap.size + 1 → Vb.heap[b]? = V.heap[b]? := fun b hb => by rw [← hVb]; exact putObj_ne hb
          have hJb : J i Vb := hJst i V Vb h1 ⟨by rw [← hVb]; rfl, by rw [← hVb]; rfl, by rw [← hVb]; rfl, by omega, fun b hb => hVbn b (by omega)⟩
          have hB := hround i x Vb hx hJb (by omega)
          dsimp only at hB
          refine ⟨fn, _, assign, body, by rw [run_yield h2 (by rw [hrec]; simpa using hxl), hrec], roundIn_of_wpIn trivial ?_⟩
          split at hB
          · rename_i e1 he1
            have hrel := roundEnv_rel ps.toList x { e with ds := [] } { tmps := a.tmps, defers := [] } ⟨hr.size, rfl, hr.get⟩ hps' (by simpa using hxl.symm)
            have hfold : (ps.zip x.toArray).foldl (fun tmps (t, v) => tmps.setIfInBounds t v) (rec .ready none).tmps = (ps.toList.zip x).foldl (fun t (p, v) => t.setIfInBounds p v) a.tmps := by
              rw [hrec, ← Array.foldl_toList]; simp
            rw [hrec] at hfold
            simp only [hfold]
            refine assignE_sound (ro := some (w.heap.size + 1)) assign _ e1 _ _ he1 hrel fun a' hr' => ?_
            refine ⟨Vb, by rw [← hVb]; exact run_beginRound h2 (by rw [hrec]), ?_⟩
            refine ihb (some (w.heap.size + 1)) 0 (i0 + 1) e1 a' Vb _ _ _ (fun _ => True) _ (fun _ _ => trivial) hr' ?_ (fun _ _ _ _ _ _ hk => hk.elim) (fun _ _ _ _ hk => hk.elim) hB
            rintro e' a'' w'' _ _ ⟨hJ', hkeep⟩
            have hl'' : w''.heap[w.heap.size + 1]? = some (.loop { rec .ready none with state := .busy }) := (hkeep.2 _ (by omega) (by omega)).trans hVbl
            have hD'' : w''.heap[w.heap.size]? = some (.deferred (some [])) := ((hkeep.2 _ (by omega) (by omega)).trans (hVbn _ (by omega))).trans h3
            have hws := hkeep.1
            refine ⟨.bool true, _, run_endRound none hl'', rfl, ⟨hJst _ w'' _ hJ' ⟨rfl, rfl, rfl, by rw [putObj_size]; omega, fun b hb => putObj_ne (by omega)⟩, ?_, ?_⟩, ?_⟩
            · rw [putObj_self hl'', hrec]; rfl
            · rw [putObj_ne (by omega)]; exact hD''
            · refine ⟨by rw [putObj_size]; omega, fun b hb1 hb2 => ?_⟩
              rw [putObj_ne (by omega), hkeep.2 b (by omega) (by omega)]
              exact hVbn b (by omega)
          · exact hB.elim
        · exact ⟨hJst 0 w W1 hJ0 hB1, hL1, hD1⟩
        · intro en W' hq
          cases en with
          | panicked c => exact hq.elim
          | outgrown => exact hq.elim
          | returned v =>
            obtain ⟨h1, h2, h3⟩ := hq
            have hlt := (Array.getElem?_eq_some_iff.1 h2).1
            refine ⟨none, _, (by have hel := run_endLoop (P := P) h2 (by rw [hrec]; intro hh; cases hh); rw [show (rec .ready none).pending = none from by rw [hrec]] at hel; exact hel), ?_⟩
            refine hn { e with ds := w.heap.size :: e.ds } _ _ ⟨hr.size, by simp [hr.defers], hr.get⟩ (fun hh => by cases hh) (hdone _ w.heap.size ?_ (Nat.le_refl _) ?_ ?_)
            · exact hJst _ W' _ h1 ⟨rfl, rfl, rfl, by rw [putObj_size]; omega, fun b hb => putObj_ne (by omega)⟩
            · rw [putObj_size]; omega
            · rw [putObj_ne (by omega)]; exact h3
  | _ => intro ro n i e a w kn kx kr M Q hM hr hn hx hret h; exact h.elim

theorem fn_sound2 (ex : List Nat) {P : Program} {f : FuncId} {fn : Func} (hf : P.funcs[f]? = some fn) (hb : fn.body.isSome = true) (ann : Nat → Option (List Nat)) {args : List Value} {w : World} {R : Value → World → Prop}
    (h : Nat.ble args.length fn.ntmps = true ∧ WPE2 ex P fn.ntmps ann false 0 (fn.body.getD .skip) (env0 args) w (resE P fn.results.toList R) (fun _ _ _ => False) (resE P fn.results.toList R)) :
    Calls P f args.toArray w (retK R) := by
  obtain ⟨hle, h⟩ := h
  have hle := Nat.le_of_ble_eq_true hle
  obtain ⟨c, hc⟩ := Option.isSome_iff_exists.1 hb
  rw [hc, Option.getD_some] at h
  refine (callsIn_wide (n := 0)).1 (callsIn_of_wp_marks hf hc trivial ?_)
  have hrel : Rel fn.ntmps (env0 args) { tmps := args.toArray ++ Array.replicate (fn.ntmps - args.toArray.size) undef, defers := [] } := by
    refine ⟨by simp; omega, rfl, fun t ht => ?_⟩
    have hs := argAt_spec args t ht
    have hlt := (List.getElem?_eq_some_iff.1 hs).1
    show _ = (argAt args t).v
    rw [Array.getD_eq_getD_getElem?, Array.getElem?_append_left (by simpa using hlt)]
    simp only [List.getElem?_toArray, hs, Option.getD_some]
  have fin : ∀ e' a' w', Rel fn.ntmps e' a' → resE P fn.results.toList R e' w' → LeavesInM Fence.wide 0 P fn a'.tmps (retK R) a'.defers .returning w' := by
    intro e' a' w' hr' hk
    rw [hr'.defers]
    refine leaves_of (fun w'' hk' => ?_) e'.ds w' hk
    obtain ⟨vs, h1, h2⟩ := resGo_sound hr' _ _ hk'
    exact ⟨_, results_run h1, h2⟩
  exact WPE2_sound c none 0 0 (env0 args) _ w _ _ _ (fun _ => True) _ (fun _ _ => trivial) hrel (fun e' a' w' hr' _ hk => fin e' a' w' hr' hk) (fun _ _ _ _ _ _ hk => hk.elim) (fun e' a' w' hr' hk => fin e' a' w' hr' hk) h

end Go.Proofs.Ytbcmoikpmmjlkaa.Eng
