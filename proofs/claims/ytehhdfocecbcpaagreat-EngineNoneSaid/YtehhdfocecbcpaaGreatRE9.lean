/- Part of a proof: the tools that its last text leans on (RE9). -/
import Derived.Test.YtehhdfocecbcpaaGreatRE8
import Derived.Scope
namespace Go.RE
open Go Go.RowKit Go.Eng

/-- the orders of a function's drawing regions -/
abbrev OrdT := Nat → Option (List (Nat × Nat) × List Nat)
def evOps (P : Program) (call : CallF) (n : Nat) (ops : List Oper) : List Oper → R → AH → Option (R × AH)
  | [], r, h => some (r, h)
  | o :: l, r, h => match evX P call n ops o r h with
    | some (r', h') => evOps P call n ops l r' h'
    | none => none
def evR (P : Program) (call : CallF) (n : Nat) (ordT : OrdT) (id : Nat) (ops : List Oper) (r : R) (h : AH) : Option (R × AH) :=
  match ordT id with
  | some (ks, C) => match evD P call n ops C h ks r h [] with
    | some (r', h', _) => some (r', h')
    | none => none
  | none => none
def loopN (body : R → AH → Option (Exit × R × AH)) : Nat → R → AH → Option (Exit × R × AH)
  | 0, _, _ => none
  | k + 1, r, h => match body r h with
    | some (.normal, r', h') => loopN body k r' h'
    | some (.exit id, r', h') => some (.exit id, r', h')
    | some (.ret, r', h') => some (.ret, r', h')
    | _ => none
def evC (P : Program) (call : CallF) (n : Nat) (ordT : OrdT) (L : Nat) : Code → R → AH → Option (Exit × R × AH)
  | .skip, r, h => some (.normal, r, h)
  | .region id ops d, r, h => match (bif d then evR P call n ordT id ops.toList r h else evOps P call n ops.toList ops.toList r h) with
    | some (r', h') => some (.normal, r', h')
    | none => none
  | .seq x y, r, h => match evC P call n ordT L x r h with
    | some (.normal, r', h') => evC P call n ordT L y r' h'
    | some (.exit id, r', h') => some (.exit id, r', h')
    | some (.ret, r', h') => some (.ret, r', h')
    | _ => none
  | .cond c x y, r, h => match opA r c with
    | .v (.bool true) => evC P call n ordT L x r h
    | .v (.bool false) => evC P call n ordT L y r h
    | _ => none
  | .block id x, r, h => match evC P call n ordT L x r h with
    | some (.exit id', r', h') => bif Nat.beq id' id then some (.normal, r', h') else some (.exit id', r', h')
    | e => e
  | .loop x, r, h => loopN (evC P call n ordT L x) L r h
  | .exit id, r, h => some (.exit id, r, h)
  | .ret, r, h => some (.ret, r, h)
  | .label _, r, h => some (.normal, r, h)
  | .scope x, r, h => match evC P call n ordT L x r h with
    | some (.normal, r', h') => some (.normal, r', h')
    | some (.exit id, r', h') => some (.exit id, r', h')
    | some (.ret, r', h') => some (.ret, r', h')
    | _ => none
  | _, _, _ => none
def okC (ordT : OrdT) : Code → Bool
  | .region id ops true => match ordT id with
    | some (ks, C) => Region.noSelect ops && ordOkF ops C ks && Nat.ble ks.length ops.size
    | none => true
  | .seq x y => okC ordT x && okC ordT y
  | .cond _ x y => okC ordT x && okC ordT y
  | .block _ x => okC ordT x
  | .loop x => okC ordT x
  | .scope x => okC ordT x
  | _ => true

theorem fMask_bit : ∀ {l : List (Nat × Nat)} {i : Nat}, (fMask l).testBit i = true → (i, 1) ∈ l
  | [], i, h => by simp [fMask] at h
  | (j, 0) :: l, i, h => List.mem_cons_of_mem _ (fMask_bit (by simpa [fMask] using h))
  | (j, 1) :: l, i, h => by
    simp only [fMask] at h
    rw [show Nat.lor (Nat.pow 2 j) (fMask l) = Nat.lor (fMask l) (Nat.pow 2 j) from Nat.or_comm _ _, lor_bit, Bool.or_eq_true] at h
    rcases h with h | h
    · exact List.mem_cons_of_mem _ (fMask_bit h)
    · have := of_decide_eq_true h; subst this; simp
  | (j, _ + 2) :: l, i, h => List.mem_cons_of_mem _ (fMask_bit (by simpa [fMask] using h))
section
variable {ds : List Deferred} {P : Program} {call : CallF} {n : Nat} {ordT : OrdT} {L : Nat}
abbrev PQp (Q : Exit → Act → World → Prop) : Prop := ∀ c a d v w, Q (.panic c) (Act.put a d v) w → Q (.panic c) a w
theorem evOps_spec (hc : CallOK P call) {ops : List Oper} : ∀ (l : List Oper) (r : R) (h : AH) (r' : R) (h' : AH), evOps P call n ops l r h = some (r', h') →
    Ext h h' ∧ ∀ E w Q, RH E h w → RW n r h.nx → (∀ E' w', Fr E h w E' h' w' → RH E' h' w' → RW n r' h'.nx → Q .normal (A ds n E' r') w') → wpList P ops.toArray Q l (A ds n E r) w
  | [], r, h, r', h', hev => by
    simp only [evOps, Option.some.injEq, Prod.mk.injEq] at hev
    obtain ⟨rfl, rfl⟩ := hev
    exact ⟨Ext.refl, fun E w Q r0 hr hK => hK E w Fr.refl r0 hr⟩
  | o :: l, r, h, r', h', hev => by
    simp only [evOps] at hev
    cases hx : evX P call n ops o r h with
    | none => rw [hx] at hev; cases hev
    | some p =>
      obtain ⟨r1, h1⟩ := p
      rw [hx] at hev
      obtain ⟨e1, ih⟩ := evOps_spec hc l r1 h1 r' h' hev
      refine ⟨(evX_ext hc hx).trans e1, fun E w Q r0 hr hK => ?_⟩
      have := evX_spec (P := P) (Q := Q) hc (ρ := rho E r) r0 hr (fun _ _ => rfl) hx (K := wpList P ops.toArray Q l) (fun E' w' v hfr hr' hv hp => by
        have := ih E' w' Q hr' ((hr.mono hfr.nx).rput hv hp) (fun E2 w2 a b c => hK E2 w2 (hfr.trans a) b c)
        have hput := rput_upd (ds := ds) (D := []) (E := E') (fun e he => by cases he) hp
        simp only [updE] at hput
        rw [← rho_congr hfr.env hr, hput]
        exact this)
      exact this
theorem evR_spec (hm : P.follows .mixedOrders = true) (hc : CallOK P call) {id : Nat} {ops : List Oper} {r r' : R} {h h' : AH} (hok : okC ordT (.region id ops.toArray true) = true) (hev : evR P call n ordT id ops r h = some (r', h')) :
    Ext h h' ∧ ∀ E w Q, PQp Q → RH E h w → RW n r h.nx → (∀ E' w', Fr E h w E' h' w' → RH E' h' w' → RW n r' h'.nx → Q .normal (A ds n E' r') w') → (Code.region id ops.toArray true).wp P Q (A ds n E r) w := by
  unfold evR at hev
  simp only [okC] at hok
  split at hev
  · next ks fl ho =>
    rw [ho] at hok
    simp only [Bool.and_eq_true] at hok
    obtain ⟨⟨hns, hord⟩, hlen⟩ := hok
    split at hev
    · next r1 h1 hf hd =>
      simp only [Option.some.injEq, Prod.mk.injEq] at hev
      obtain ⟨rfl, rfl⟩ := hev
      have hx := (evD_ext hc _ _ _ _ hd).1
      refine ⟨hx, fun E w Q hQ r0 hr hK => ?_⟩
      unfold ordOkF at hord
      rw [mkI_eq, force_eq] at hord
      simp only [Bool.and_eq_true] at hord
      obtain ⟨⟨hF, hG⟩, hCe⟩ := hord
      have r00 : RH E h { w with drawn := w.drawn + 1 } := r0.other (w' := { w with drawn := w.drawn + 1 }) (Nat.le_refl _) (fun _ _ => rfl)
      have hz : Nat.lor 0 (dMask []) = 0 := by show 0 ||| 0 = 0; simp
      have := simD (P := P) (call := call) (n := n) (ops := ops) (C := fl) (E0 := E) (h0 := h) (Q := Q) hc hns hQ (fun k x hx => ⟨r00.key k x hx, r00.lt k x hx⟩) (eqN_eq hCe) (PF := hf) hF
        (re := r1) (he := h1) (Es := E) (hs := h) (ws := { w with drawn := w.drawn + 1 })
        (fun E' w' a b c => hK E' w' ⟨a.os, a.tape, a.output, a.size, a.env, a.nx, a.frame, a.foot⟩ b c)
        ks ks.length 0 (Array.replicate ops.toArray.size false) [] r h E { w with drawn := w.drawn + 1 } [] hG hd
        ⟨fun i _ hi _ => fMask_bit hi, ⟨by simp, fun i hi => by rw [hz]; simp at hi; simp [hi], fun i hi => by rw [hz] at hi; simp at hi⟩, ⟨by simp, by simp, by simp, by simp, by simp, by simp, by simp, by simp⟩, fun _ _ => rfl, Ext.refl, r00, hr, Fr.refl, by simp, fun k ok _ hl => by
          exfalso
          have : (Array.replicate ops.toArray.size false).getD k false = false := by
            rw [Array.getD_eq_getD_getElem?, Array.getElem?_replicate]
            split <;> rfl
          rw [this] at hl; cases hl⟩ (by simp) (by simp)
      exact wp_region_any hm (wpAny_of_G _ _ _ _ (wpAnyG_fuel _ _ _ _ _ (Nat.le_of_ble_eq_true hlen) this))
    · cases hev
  · cases hev
theorem then_other {K : Act → World → Prop} {Q : Exit → Act → World → Prop} {e : Exit} {a : Act} {w : World} (he : e ≠ .normal) (h : Q e a w) : Exit.then K Q e a w := by cases e <;> first | exact absurd rfl he | exact h
theorem evC_spec (hm : P.follows .mixedOrders = true) (hc : CallOK P call) : ∀ (c : Code), okC ordT c = true → ∀ (r : R) (h : AH) (e : Exit) (r' : R) (h' : AH), evC P call n ordT L c r h = some (e, r', h') →
    Ext h h' ∧ ∀ E w Q, PQp Q → RH E h w → RW n r h.nx → (∀ E' w', Fr E h w E' h' w' → RH E' h' w' → RW n r' h'.nx → Q e (A ds n E' r') w') → c.wp P Q (A ds n E r) w := by
  intro c
  induction c with
  | skip =>
    intro _ r h e r' h' hev
    simp only [evC, Option.some.injEq, Prod.mk.injEq] at hev
    obtain ⟨rfl, rfl, rfl⟩ := hev
    exact ⟨Ext.refl, fun E w Q _ r0 hr hK => wp_skip (hK E w Fr.refl r0 hr)⟩
  | exit id =>
    intro _ r h e r' h' hev
    simp only [evC, Option.some.injEq, Prod.mk.injEq] at hev
    obtain ⟨rfl, rfl, rfl⟩ := hev
    exact ⟨Ext.refl, fun E w Q _ r0 hr hK => wp_exit (hK E w Fr.refl r0 hr)⟩
  | ret =>
    intro _ r h e r' h' hev
    simp only [evC, Option.some.injEq, Prod.mk.injEq] at hev
    obtain ⟨rfl, rfl, rfl⟩ := hev
    exact ⟨Ext.refl, fun E w Q _ r0 hr hK => wp_ret (hK E w Fr.refl r0 hr)⟩
  | region id ops d =>
    intro hok r h e r' h' hev
    simp only [evC] at hev
    cases d with
    | true =>
      simp only [cond_true] at hev
      split at hev
      · next r1 h1 hx =>
        simp only [Option.some.injEq, Prod.mk.injEq] at hev
        obtain ⟨rfl, rfl, rfl⟩ := hev
        have := evR_spec (ds := ds) (ops := ops.toList) hm hc (by simpa using hok) hx
        simpa using this
      · cases hev
    | false =>
      simp only [cond_false] at hev
      split at hev
      · next r1 h1 hx =>
        simp only [Option.some.injEq, Prod.mk.injEq] at hev
        obtain ⟨rfl, rfl, rfl⟩ := hev
        obtain ⟨e1, hh⟩ := evOps_spec (P := P) hc _ _ _ _ _ hx
        refine ⟨e1, fun E w Q _ r0 hr hK => ?_⟩
        have := wp_region_lit (id := id) (hh E w Q r0 hr hK)
        simpa using this
      · cases hev
  | seq x y ihx ihy =>
    intro hok r h e r' h' hev
    simp only [okC, Bool.and_eq_true] at hok
    simp only [evC] at hev
    split at hev
    · next r1 h1 hx =>
      obtain ⟨e1, a1⟩ := ihx hok.1 _ _ _ _ _ hx
      obtain ⟨e2, a2⟩ := ihy hok.2 _ _ _ _ _ hev
      exact ⟨e1.trans e2, fun E w Q hQ r0 hr hK => wp_seq (a1 E w _ (fun c a d v w q => hQ c a d v w q) r0 hr fun E' w' f b c =>
        a2 E' w' Q hQ b c fun E2 w2 f2 b2 c2 => hK E2 w2 (f.trans f2) b2 c2)⟩
    · next id r1 h1 hx =>
      simp only [Option.some.injEq, Prod.mk.injEq] at hev
      obtain ⟨rfl, rfl, rfl⟩ := hev
      obtain ⟨e1, a1⟩ := ihx hok.1 _ _ _ _ _ hx
      exact ⟨e1, fun E w Q hQ r0 hr hK => wp_seq (a1 E w _ (fun c a d v w q => hQ c a d v w q) r0 hr fun E' w' f b c => hK E' w' f b c)⟩
    · next r1 h1 hx =>
      simp only [Option.some.injEq, Prod.mk.injEq] at hev
      obtain ⟨rfl, rfl, rfl⟩ := hev
      obtain ⟨e1, a1⟩ := ihx hok.1 _ _ _ _ _ hx
      exact ⟨e1, fun E w Q hQ r0 hr hK => wp_seq (a1 E w _ (fun c a d v w q => hQ c a d v w q) r0 hr fun E' w' f b c => hK E' w' f b c)⟩
    · cases hev
  | cond c x y ihx ihy =>
    intro hok r h e r' h' hev
    simp only [okC, Bool.and_eq_true] at hok
    simp only [evC] at hev
    split at hev
    · next hb =>
      obtain ⟨e1, a1⟩ := ihx hok.1 _ _ _ _ _ hev
      refine ⟨e1, fun E w Q hQ r0 hr hK => wp_cond_split (t := true) ?_ (fun _ => a1 E w Q hQ r0 hr hK) (fun q => by cases q)⟩
      have := A_evalG (ds := ds) (ρ := rho E r) (E := E) hr.out c (fun _ _ => rfl)
      rw [hb] at this; simp only [AV.emb] at this; exact this
    · next hb =>
      obtain ⟨e1, a1⟩ := ihy hok.2 _ _ _ _ _ hev
      refine ⟨e1, fun E w Q hQ r0 hr hK => wp_cond_split (t := false) ?_ (fun q => by cases q) (fun _ => a1 E w Q hQ r0 hr hK)⟩
      have := A_evalG (ds := ds) (ρ := rho E r) (E := E) hr.out c (fun _ _ => rfl)
      rw [hb] at this; simp only [AV.emb] at this; exact this
    · cases hev
  | block id x ih =>
    intro hok r h e r' h' hev
    simp only [okC] at hok
    simp only [evC] at hev
    split at hev
    · next id' r1 h1 hx =>
      obtain ⟨e1, a1⟩ := ih hok _ _ _ _ _ hx
      cases hb : Nat.beq id' id with
      | true =>
        have := Nat.eq_of_beq_eq_true hb
        rw [hb] at hev
        simp only [cond_true, Option.some.injEq, Prod.mk.injEq] at hev
        obtain ⟨rfl, rfl, rfl⟩ := hev
        exact ⟨e1, fun E w Q hQ r0 hr hK => wp_block (a1 E w _ (fun c a d v w q => hQ c a d v w q) r0 hr fun E' w' f b c => by
          show Exit.inBlock id Q (.exit id') _ _
          simp only [Exit.inBlock, this, if_true]; exact hK E' w' f b c)⟩
      | false =>
        have := T.beq_false hb
        rw [hb] at hev
        simp only [cond_false, Option.some.injEq, Prod.mk.injEq] at hev
        obtain ⟨rfl, rfl, rfl⟩ := hev
        exact ⟨e1, fun E w Q hQ r0 hr hK => wp_block (a1 E w _ (fun c a d v w q => hQ c a d v w q) r0 hr fun E' w' f b c => by
          show Exit.inBlock id Q (.exit id') _ _
          simp only [Exit.inBlock, this, if_false]; exact hK E' w' f b c)⟩
    · next hne =>
      obtain ⟨e1, a1⟩ := ih hok _ _ _ _ _ hev
      refine ⟨e1, fun E w Q hQ r0 hr hK => wp_block (a1 E w _ (fun c a d v w q => hQ c a d v w q) r0 hr fun E' w' f b c => ?_)⟩
      cases e with
      | exit id' => exact absurd hev (hne id' r' h')
      | _ => exact hK E' w' f b c
  | loop x ih =>
    intro hok r h e r' h' hev
    simp only [okC] at hok
    simp only [evC] at hev
    have key : ∀ (k : Nat) (r : R) (h : AH), loopN (evC P call n ordT L x) k r h = some (e, r', h') → Ext h h' := by
      intro k
      induction k with
      | zero => intro r h hl; cases hl
      | succ k ihk =>
        intro r h hl
        simp only [loopN] at hl
        split at hl
        · next r1 h1 hx => exact (ih hok _ _ _ _ _ hx).1.trans (ihk _ _ hl)
        · next hx => simp only [Option.some.injEq, Prod.mk.injEq] at hl; obtain ⟨_, _, rfl⟩ := hl; exact (ih hok _ _ _ _ _ hx).1
        · next hx => simp only [Option.some.injEq, Prod.mk.injEq] at hl; obtain ⟨_, _, rfl⟩ := hl; exact (ih hok _ _ _ _ _ hx).1
        · cases hl
    refine ⟨key L r h hev, fun E w Q hQ r0 hr hK => ?_⟩
    refine wp_loop_ghost (fun m a w2 => ∃ r2 h2 E2, loopN (evC P call n ordT L x) m r2 h2 = some (e, r', h') ∧ a = A ds n E2 r2 ∧ RH E2 h2 w2 ∧ RW n r2 h2.nx ∧ Fr E h w E2 h2 w2) L ⟨r, h, E, hev, rfl, r0, hr, Fr.refl⟩ ?_
    rintro m a w2 ⟨r2, h2, E2, hl, rfl, b0, b1, b2⟩
    cases m with
    | zero => cases hl
    | succ m =>
      simp only [loopN] at hl
      split at hl
      · next r3 h3 hx =>
        exact (ih hok _ _ _ _ _ hx).2 E2 w2 _ (fun c a d v w q => hQ c a d v w q) b0 b1 fun E' w' f b c => ⟨m, Nat.lt_succ_self _, r3, h3, E', hl, rfl, b, c, b2.trans f⟩
      · next hx =>
        simp only [Option.some.injEq, Prod.mk.injEq] at hl
        obtain ⟨rfl, rfl, rfl⟩ := hl
        exact (ih hok _ _ _ _ _ hx).2 E2 w2 _ (fun c a d v w q => hQ c a d v w q) b0 b1 fun E' w' f b c => hK E' w' (b2.trans f) b c
      · next hx =>
        simp only [Option.some.injEq, Prod.mk.injEq] at hl
        obtain ⟨rfl, rfl, rfl⟩ := hl
        exact (ih hok _ _ _ _ _ hx).2 E2 w2 _ (fun c a d v w q => hQ c a d v w q) b0 b1 fun E' w' f b c => hK E' w' (b2.trans f) b c
      · cases hl
  | label l =>
    intro _ r h e r' h' hev
    simp only [evC, Option.some.injEq, Prod.mk.injEq] at hev
    obtain ⟨rfl, rfl, rfl⟩ := hev
    exact ⟨Ext.refl, fun E w Q _ r0 hr hK => wp_label (hK E w Fr.refl r0 hr)⟩
  | scope x ih =>
    intro hok r h e r' h' hev
    simp only [okC] at hok
    simp only [evC] at hev
    split at hev
    · next r1 h1 hx =>
      simp only [Option.some.injEq, Prod.mk.injEq] at hev
      obtain ⟨rfl, rfl, rfl⟩ := hev
      obtain ⟨e1, a1⟩ := ih hok _ _ _ _ _ hx
      exact ⟨e1, fun E w Q hQ r0 hr hK => wp_scope_straight (a1 E w _ (fun c a d v w q => hQ c a d v w q) r0 hr fun E' w' f b c => hK E' w' f b c)⟩
    · next id r1 h1 hx =>
      simp only [Option.some.injEq, Prod.mk.injEq] at hev
      obtain ⟨rfl, rfl, rfl⟩ := hev
      obtain ⟨e1, a1⟩ := ih hok _ _ _ _ _ hx
      exact ⟨e1, fun E w Q hQ r0 hr hK => wp_scope_straight (a1 E w _ (fun c a d v w q => hQ c a d v w q) r0 hr fun E' w' f b c => hK E' w' f b c)⟩
    · next r1 h1 hx =>
      simp only [Option.some.injEq, Prod.mk.injEq] at hev
      obtain ⟨rfl, rfl, rfl⟩ := hev
      obtain ⟨e1, a1⟩ := ih hok _ _ _ _ _ hx
      exact ⟨e1, fun E w Q hQ r0 hr hK => wp_scope_straight (a1 E w _ (fun c a d v w q => hQ c a d v w q) r0 hr fun E' w' f b c => hK E' w' f b c)⟩
    · cases hev
  | _ => intro _ r h e r' h' hev; simp [evC] at hev

/-! ### functions -/
def regs0 : List AV → Nat → R → R
  | [], _, r => r
  | x :: l, i, r => regs0 l (i + 1) (T.set 12 r i (some x))
theorem regs0_get : ∀ (l : List AV) (i : Nat) (r : R) (t : Nat), (∀ t, i ≤ t → T.get r t = none) → T.get (regs0 l i r) t = if i ≤ t then l[t - i]? else T.get r t
  | [], i, r, t, h => by
    simp only [regs0]
    by_cases ht : i ≤ t
    · simp [ht, h t ht]
    · simp [ht]
  | x :: l, i, r, t, h => by
    simp only [regs0]
    rw [regs0_get l (i + 1) _ t fun t ht => by rw [T.get_set, if_neg (by omega)]; exact h t (by omega)]
    rw [T.get_set]
    by_cases ht : i ≤ t
    · by_cases he : t = i
      · subst he; rw [if_neg (by omega)]; simp
      · have : i + 1 ≤ t := by omega
        rw [if_pos this, if_pos ht]
        rw [show t - i = (t - (i + 1)) + 1 by omega]; simp
    · rw [if_neg (by omega), if_neg (by omega), if_neg ht]
def evRes (P : Program) (r : R) (h : AH) : List ResultVar → Option (List AV)
  | [] => some []
  | .tmp t :: l => match evRes P r h l with
    | some vs => some (rget r t :: vs)
    | none => none
  | .cell a t :: l => match evP P (opA r) h ⟨none, .load t (.tmp a), 0, "", #[], none⟩ with
    | some v => match evRes P r h l with
      | some vs => some (v :: vs)
      | none => none
    | none => none
def resOf : List AV → AV
  | [x] => x
  | l => .t l
/-- the program's functions, with the orders of their drawing regions -/
structure FT where
  fn : Nat → Option Func
  ord : Nat → OrdT
structure FTok (P : Program) (F : FT) : Prop where
  mix : P.follows .mixedOrders = true
  ok : ∀ f fn, F.fn f = some fn → P.funcs[f]? = some fn ∧ (fn.name == "runtime.NumGoroutine") = false ∧ ∀ c, fn.body = some c → okC (F.ord f) c = true
def callN (P : Program) (F : FT) (orc : CallF) (L : Nat) : Nat → CallF
  | 0 => fun _ _ _ => none
  | k + 1 => fun f args h => match orc f args h with
    | some x => some x
    | none => match F.fn f with
    | none => none
    | some fn => match fn.body with
      | none => none
      | some c => bif Nat.ble args.length fn.ntmps then
          (match evC P (callN P F orc L k) fn.ntmps (F.ord f) L c (regs0 args 0 .e) h with
          | some (.ret, r, h') => (match evRes P r h' fn.results.toList with | some vs => some (resOf vs, h') | none => none)
          | some (.normal, r, h') => (match evRes P r h' fn.results.toList with | some vs => some (resOf vs, h') | none => none)
          | _ => none) else none
theorem run_value {P : Program} {s : Sem Value} {w : World} {x : Value} (h : (do pure (.value (← s)) : Sem Next).run P w = .ok (.value x) w) : s.run P w = .ok x w := by
  rw [Sem.run_bind] at h
  cases hs : s.run P w with
  | ok a w' =>
    rw [hs] at h
    simp only [Result.andThen_ok] at h
    have : Result.ok (Next.value a) w' = Result.ok (Next.value x) w := h
    injection this with h1 h2
    injection h1 with h1
    rw [h1, h2]
  | halt _ _ => rw [hs] at h; cases h
theorem evRes_spec {E : Env} {w : World} {r : R} {h : AH} (r0 : RH E h w) (hr : RW n r h.nx) : ∀ (l : List ResultVar) (vs : List AV), evRes P r h l = some vs → ltL h.nx vs ∧ vs.length = l.length ∧
    ∀ (i : Nat) (rv : ResultVar) (v : AV), l[i]? = some rv → vs[i]? = some v → (match rv with | .tmp t => pure ((A ds n E r).tmps.getD t undef) | .cell a t => do loadVar t (← asAddr ((A ds n E r).tmps.getD a undef)) : Sem Value).run P w = .ok (v.emb E) w
  | [], vs, hv => by simp only [evRes, Option.some.injEq] at hv; subst hv; exact ⟨by simp [ltL], rfl, fun i rv v h => by simp at h⟩
  | .tmp t :: l, vs, hv => by
    simp only [evRes] at hv
    split at hv
    · next us hu =>
      injection hv with hv; subst hv
      obtain ⟨h1, h2, h3⟩ := evRes_spec r0 hr l us hu
      refine ⟨⟨hr.lt t, h1⟩, by simp [h2], fun i rv v hi hv => ?_⟩
      cases i with
      | zero =>
        simp at hi hv; subst hi; subst hv
        have ev : (A ds n E r).tmps.getD t undef = (rget r t).emb E := A_evalG (ds := ds) (ρ := rho E r) hr.out (Operand.tmp t) (fun _ h => by injection h with h; subst h; rfl)
        simp only [ev]; rfl
      | succ i => exact h3 i rv v (by simpa using hi) (by simpa using hv)
    · cases hv
  | .cell a t :: l, vs, hv => by
    simp only [evRes] at hv
    split at hv
    · next v0 hl =>
      split at hv
      · next us hu =>
        injection hv with hv; subst hv
        obtain ⟨h1, h2, h3⟩ := evRes_spec r0 hr l us hu
        obtain ⟨q1, q2⟩ := evP_spec (E := E) (w := w) (N := h.nx) (ε := (A ds n E r).eval) r0 (Nat.le_refl _) (fun x _ => opA_lt hr x) (fun x _ => A_evalG (ds := ds) (ρ := rho E r) hr.out x (fun _ _ => rfl)) hl
        refine ⟨⟨q2, h1⟩, by simp [h2], fun i rv v hi hv => ?_⟩
        cases i with
        | zero =>
          simp at hi hv; subst hi; subst hv
          have q3 := run_value (P := P) (s := Instr.loadAt t ((A ds n E r).eval (Operand.tmp a))) q1
          have ev : (A ds n E r).eval (Operand.tmp a) = (A ds n E r).tmps.getD a undef := rfl
          rw [ev] at q3
          have hadr : ∃ ad, (A ds n E r).tmps.getD a undef = .pointer (some ad) := by
            simp only [evP] at hl
            split at hl
            · next k off hx _ =>
              have := A_evalG (ds := ds) (ρ := rho E r) (E := E) hr.out (Operand.tmp a) (fun _ _ => rfl)
              rw [hx] at this
              simp only [AV.emb] at this
              exact ⟨_, this⟩
            · next k off hx _ =>
              have := A_evalG (ds := ds) (ρ := rho E r) (E := E) hr.out (Operand.tmp a) (fun _ _ => rfl)
              rw [hx] at this
              simp only [AV.emb] at this
              exact ⟨_, this⟩
            · cases hl
          obtain ⟨ad, hadr⟩ := hadr
          rw [hadr] at q3
          have q4 : (loadVar t ad).run P w = .ok (v0.emb E) w := q3
          simp only [hadr]
          show ((pure ad : Sem Addr).bind fun a => loadVar t a).run P w = _
          exact q4
        | succ i => exact h3 i rv v (by simpa using hi) (by simpa using hv)
      · cases hv
    · cases hv
theorem results_run {E : Env} {w : World} {r : R} {h : AH} (r0 : RH E h w) (hr : RW n r h.nx) {fn : Func} {vs : List AV} (hv : evRes P r h fn.results.toList = some vs) : (resOf vs).lt h.nx ∧ (results fn (A ds n E r).tmps).run P w = .ok ((resOf vs).emb E) w := by
  obtain ⟨h1, h2, h3⟩ := evRes_spec r0 hr _ _ hv
  refine ⟨?_, ?_⟩
  · unfold resOf
    split
    · exact h1.1
    · exact h1
  · unfold results
    rw [Sem.run_bind, run_mapM (vals := embL E vs) (by rw [embL_length, h2]; simp) (fun i rv v hi hv => by
      rw [embL_get', Option.map_eq_some_iff] at hv
      obtain ⟨x, hx, rfl⟩ := hv
      exact h3 i rv x (by simpa using hi) hx)]
    simp only [Result.andThen_ok]
    have e : (if h : (embL E vs).toArray.size = 1 then (embL E vs).toArray[0] else Value.tuple (embL E vs).toArray) = (resOf vs).emb E := by
      match vs with
      | [] => simp [resOf, embL, AV.emb]
      | [x] => simp [resOf, embL]
      | x :: y :: l => simp [resOf, embL, AV.emb]
    rw [e]; rfl
theorem callN_ok {F : FT} {orc : CallF} {L : Nat} (hF : FTok P F) (ho : CallOK P orc) : ∀ k, CallOK P (callN P F orc L k)
  | 0 => fun f args h v h' hev => by cases hev
  | k + 1 => fun f args h v h' hev => by
    have ih := callN_ok (L := L) hF ho k
    simp only [callN] at hev
    cases hoc : orc f args h with
    | some x => rw [hoc] at hev; injection hev with hev; subst hev; exact ho f args h v h' hoc
    | none =>
    rw [hoc] at hev
    simp only at hev
    cases hf : F.fn f with
    | none => rw [hf] at hev; cases hev
    | some fn =>
      rw [hf] at hev
      obtain ⟨g1, g2, g3⟩ := hF.ok f fn hf
      cases hb : fn.body with
      | none => simp only [hb] at hev; cases hev
      | some c =>
        simp only [hb] at hev
        cases hl : Nat.ble args.length fn.ntmps with
        | false => rw [hl] at hev; cases hev
        | true =>
          rw [hl] at hev
          simp only [cond_true] at hev
          have hle := Nat.le_of_ble_eq_true hl
          have hcall : ∀ (as : Array Value) (w : World), (callFunc f as).run P w = .ok (.enter f as) w := fun as w => by
            unfold callFunc
            simp [go_sem, g1, hb]
            intro e; rw [e] at g2; simp at g2
          have h0 : ∀ t, T.get (T.e : R) t = none := fun t => T.get_e t
          have hget : ∀ t, T.get (regs0 args 0 .e) t = args[t]? := fun t => by rw [regs0_get _ _ _ _ fun t _ => h0 t]; simp
          have hrw : ∀ N, ltL N args → RW fn.ntmps (regs0 args 0 .e) N := fun N hN => ⟨fun t => by
            unfold rget
            rw [hget]
            cases ht : args[t]? with
            | none => simp [AV.lt]
            | some x => exact ltL_get hN ht, fun t ht => by rw [hget]; exact List.getElem?_eq_none (by omega)⟩
          have hrho : ∀ E, acts fn.ntmps (rho E (regs0 args 0 .e)) = { tmps := (⟨embL E args⟩ : Array Value) ++ Array.replicate (fn.ntmps - (⟨embL E args⟩ : Array Value).size) undef, defers := [] } := fun E => by
            have := acts_rg0 (embL E args) fn.ntmps (by rw [embL_length]; exact hle)
            rw [← this]
            congr 1
            funext t
            simp only [rho, rg0, rget, hget]
            rw [List.getD_eq_getElem?_getD, embL_get']
            cases args[t]? <;> simp [AV.emb]
          have fin : ∀ (e : Exit) (r : R) (h1 : AH) (vs : List AV), (e = .ret ∨ e = .normal) → evC P (callN P F orc L k) fn.ntmps (F.ord f) L c (regs0 args 0 .e) h = some (e, r, h1) → evRes P r h1 fn.results.toList = some vs → v = resOf vs → h' = h1 →
              Ext h h' ∧ (∀ as w, (callFunc f as).run P w = .ok (.enter f as) w) ∧ ∀ E w, RH E h w → ltL h.nx args → Calls P f ⟨embL E args⟩ w fun e w' => ∃ E', e = .returned (v.emb E') ∧ Fr E h w E' h' w' ∧ RH E' h' w' ∧ v.lt h'.nx := by
            intro e r h1 vs he hc hr hv hh
            subst hv; subst hh
            obtain ⟨a1, a2⟩ := evC_spec hF.mix ih c (g3 c hb) _ _ _ _ _ hc
            refine ⟨a1, hcall, fun E w r0 hlt => calls_of_wp g1 hb ?_⟩
            rw [← hrho E]
            refine a2 E w _ (fun c a d v w q => PQ.pq (R := bodyPost P fn _) c a d v w q) r0 (hrw _ hlt) fun E' w' f b c => ?_
            obtain ⟨q1, q2⟩ := results_run b c hr
            have : ∃ v', (results fn (A [] fn.ntmps E' r).tmps).run P w' = .ok v' w' ∧ ∃ E'', (Ending.returned v') = .returned ((resOf vs).emb E'') ∧ Fr E h w E'' h' w' ∧ RH E'' h' w' ∧ (resOf vs).lt h'.nx := ⟨_, q2, E', rfl, f, b, q1⟩
            rcases he with rfl | rfl
            · exact ⟨rfl, this⟩
            · exact ⟨rfl, this⟩
          split at hev
          · next r h1 hc =>
            split at hev
            · next vs hr =>
              simp only [Option.some.injEq, Prod.mk.injEq] at hev
              exact fin _ r h1 vs (.inl rfl) hc hr hev.1.symm hev.2.symm
            · cases hev
          · next r h1 hc =>
            split at hev
            · next vs hr =>
              simp only [Option.some.injEq, Prod.mk.injEq] at hev
              exact fin _ r h1 vs (.inr rfl) hc hr hev.1.symm hev.2.symm
            · cases hev
          · cases hev
/-- a closed run -/
def isV (v : Value) : Option (AV × AH) → Prop
  | some (.v x, _) => x = v
  | _ => False
theorem closed_run {F : FT} {orc : CallF} {L k : Nat} (hF : FTok P F) (ho : CallOK P orc) {f : FuncId} {v : Value} (h : ((callN P F orc L k f [] emptyH).map (·.1)) = some (.v v)) (w : World) :
    Calls P f #[] w fun e w' => e = .returned v ∧ Below w.heap.size w w' := by
  cases hc : callN P F orc L k f [] emptyH with
  | none => rw [hc] at h; cases h
  | some p =>
    obtain ⟨a, h'⟩ := p
    rw [hc] at h
    simp only [Option.map_some, Option.some.injEq] at h
    subst h
    obtain ⟨_, _, hh⟩ := callN_ok hF ho k _ _ _ _ _ hc
    have emp : ∀ k x, emptyH.get k = some x → False := fun k x hx => by
      have h1 : (T.e : T Blk).get k = some x := hx
      rw [T.get_e] at h1; cases h1
    have := hh (fun _ => (0, 0)) w ⟨fun k x hx => (emp k x hx).elim, fun k x hx => (emp k x hx).elim, fun k x hx => (emp k x hx).elim, fun k x hx => (emp k x hx).elim, fun k x _ _ hx => (emp k x hx).elim⟩ (by simp [ltL])
    simp only [embL] at this
    refine this.mono ?_
    rintro e w' ⟨E', rfl, hfr, _, _⟩
    exact ⟨by simp [AV.emb], ⟨hfr.os, hfr.tape, hfr.output, hfr.size, fun k hk => hfr.frame k hk fun j x hx => (emp j x hx).elim⟩⟩
end
end Go.RE
