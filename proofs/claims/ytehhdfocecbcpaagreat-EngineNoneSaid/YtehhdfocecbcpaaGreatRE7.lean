/- Part of a proof: the tools that its last text leans on (RE7). -/
import Derived.Test.YtehhdfocecbcpaaGreatRE6
namespace Go.RE
open Go Go.RowKit Go.Eng

/-- one operation where it stands -/
def evX (P : Program) (call : CallF) (n : Nat) (ops : List Oper) (o : Oper) (r : R) (h : AH) : Option (R × AH) :=
  match gOK n ops r o with
  | some true => match evOp P call (opA r) h o with
    | some (v, h') => match rput n r o.dst v with
      | some r' => some (r', h')
      | none => none
    | none => none
  | some false => match rput n r o.dst (.v undef) with
    | some r' => some (r', h)
    | none => none
  | none => none
def keyOf : AV → Option Nat
  | .p k _ => some k
  | .s k _ _ _ => some k
  | _ => none
def ldKey (ρ : Operand → AV) (o : Oper) : Option Nat := match o.op with
  | .load _ x => keyOf (ρ x)
  | .slice _ x _ _ _ => keyOf (ρ x)
  | _ => none
def emptyH : AH := ⟨.e, 0, .e, 0⟩
def AH.only (h : AH) (k : Nat) : AH := ⟨T.set 30 .e k (h.t.get k), h.nx, .e, 0⟩
/-- what was read is as it was, where j may come before the reading -/
def protOk (C : List Nat) (h : AH) (c j : Nat) : List (Nat × Nat) → Bool
  | [] => true
  | (i, k) :: l => (!keepB C i j || okS h k c) && protOk C h c j l
def evD (P : Program) (call : CallF) (n : Nat) (ops : List Oper) (C : List Nat) (h0 : AH) : List (Nat × Nat) → R → AH → List (Nat × Nat) → Option (R × AH × List (Nat × Nat))
  | [], r, h, pr => some (r, h, pr)
  | (i, kd) :: l, r, h, pr => match ops[i]? with
    | none => none
    | some o => bif Nat.beq kd 1 then (match o.guard, o.dst, evN P (opA r) o with
        | none, some d, some (ty, cs, rr) => bif Nat.blt d n then evD P call n ops C h0 l (T.set 12 r d (some (resA rr h.nx))) (h.new (.c ty cs)) pr else none
        | _, _, _ => none)
      else bif Nat.beq kd 2 then (match evX P call n ops o r h with
        | some (r1, h1) => bif protOk C h1 h0.ck i pr then evD P call n ops C h0 l r1 h1 pr else none
        | none => none)
      else match gOK n ops r o with
        | none => none
        | some false => (match rput n r o.dst (.v undef) with
          | some r1 => evD P call n ops C h0 l r1 h pr
          | none => none)
        | some true => bif Nat.beq kd 0 then (match evP P (opA r) emptyH o with
            | some v => (match rput n r o.dst v with
              | some r1 => evD P call n ops C h0 l r1 h pr
              | none => none)
            | none => none)
          else match ldKey (opA r) o with
            | none => none
            | some k => bif Nat.blt k h0.nx && okS h k h0.ck then (match evP P (opA r) (h.only k) o with
              | none => none
              | some v => match rput n r o.dst v with
                | none => none
                | some r1 => evD P call n ops C h0 l r1 h ((i, k) :: pr)) else none

section
variable {ds : List Deferred} {P : Program} {call : CallF} {n : Nat} {ops : List Oper} {C : List Nat} {E0 E : Env} {h0 h h' : AH} {w : World} {r r' : R} {Q : Exit → Act → World → Prop}
theorem evX_ext (hc : CallOK P call) {o : Oper} (hev : evX P call n ops o r h = some (r', h')) : Ext h h' := by
  unfold evX at hev
  split at hev
  · split at hev
    · next v h1 ho =>
      split at hev
      · simp only [Option.some.injEq, Prod.mk.injEq] at hev; obtain ⟨_, rfl⟩ := hev; exact evOp_ext hc ho
      · cases hev
    · cases hev
  · split at hev
    · simp only [Option.some.injEq, Prod.mk.injEq] at hev; obtain ⟨_, rfl⟩ := hev; exact Ext.refl
    · cases hev
  · cases hev
/-- an operation at registers ρ that are as r says where it looks -/
theorem evX_spec (hc : CallOK P call) {o : Oper} {ρ : Rg} (r0 : RH E h w) (hr : RW n r h.nx) (hρ : ∀ t, t ∈ o.looksAt ops.toArray → ρ t = (rget r t).emb E) (hev : evX P call n ops o r h = some (r', h')) {K : Act → World → Prop}
    (hK : ∀ E' w' v, Fr E h w E' h' w' → RH E' h' w' → v.lt h'.nx → rput n r o.dst v = some r' → K ((actD ds n ρ).put o.dst (v.emb E')) w') : wpO P ops.toArray Q o K (actD ds n ρ) w := by
  have hε : ∀ x ∈ o.op.operands, (actD ds n ρ).eval x = (opA r x).emb E := fun x hx => A_evalG hr.out x fun t ht => hρ t (by
    subst ht; exact List.mem_append_left _ (List.mem_filterMap.2 ⟨.tmp t, by simpa using hx, rfl⟩))
  unfold evX at hev
  unfold wpO
  split at hev
  · next hg =>
    rw [gOK_spec (E := E) hg hρ]
    simp only [if_true]
    split at hev
    · next v h1 ho =>
      split at hev
      · next r1 hp =>
        simp only [Option.some.injEq, Prod.mk.injEq] at hev
        obtain ⟨rfl, rfl⟩ := hev
        exact .inl (evOp_spec hc r0 hr hε ho fun E' w' a1 a2 a3 => hK E' w' v a1 a2 a3 hp)
      · cases hev
    · cases hev
  · next hg =>
    rw [gOK_spec (E := E) hg hρ]
    simp only [Bool.false_eq_true, if_false]
    split at hev
    · next r1 hp =>
      simp only [Option.some.injEq, Prod.mk.injEq] at hev
      obtain ⟨rfl, rfl⟩ := hev
      have := hK E w (.v undef) Fr.refl r0 (by simp [AV.lt]) hp
      simpa only [AV.emb] using this
    · cases hev
  · cases hev
/-- what stands in a block at the region's start -/
def SP (E0 : Env) (h0 : AH) (PF : List (Nat × Nat)) (i : Nat) (w : World) : Prop := ∀ k x, (i, k) ∈ PF → h0.get k = some x → (E0 k).1 < w.heap.size ∧ x.holds E0 k w
theorem SP_at (hE : ∀ k, k < h0.nx → E k = E0 k) (h1 : Ext h0 h) (a0 : ∀ k x, h0.get k = some x → k < h0.nx ∧ x.lt h0.nx) (a : RH E h w) {k : Nat} (ho : okS h k h0.ck = true) : ∀ x, h0.get k = some x → (E0 k).1 < w.heap.size ∧ x.holds E0 k w := fun x hg => by
  obtain ⟨hk, hlt⟩ := a0 k x hg
  obtain ⟨g3, _⟩ := h1.get k hk ho
  have hg' : h.get k = some x := g3.trans hg
  refine ⟨by rw [← hE k hk]; exact a.sz k x hg', ?_⟩
  exact (Blk.holds_congr (fun k hk => (hE k hk).symm) hk hlt).2 (a.holds k x hg')
theorem SP_frame {PF : List (Nat × Nat)} {i : Nat} {w w' : World} (hs : w.heap.size ≤ w'.heap.size) (hf : ∀ q, q < w.heap.size → w'.heap[q]? = w.heap[q]?) (a : SP E0 h0 PF i w) : SP E0 h0 PF i w' := fun k x hk hg => by
  obtain ⟨b1, b2⟩ := a k x hk hg
  exact ⟨Nat.lt_of_lt_of_le b1 hs, Blk.holds_frame (hf _ b1) b2⟩
theorem okS_ext {h h' : AH} {k c : Nat} (hx : Ext h h') (hk : k < h.nx) (hc : c ≤ h.ck) (ho : okS h' k c = true) : okS h k c = true := by
  obtain ⟨_, g2⟩ := hx.get k hk (okS_mono hc ho)
  unfold okS at *; rw [← g2]; exact ho
/-- one block alone -/
theorem only_of {k : Nat} (a0 : ∀ k x, h0.get k = some x → k < h0.nx ∧ x.lt h0.nx) (hE : ∀ k, k < h0.nx → E k = E0 k) (h1 : Ext h0 h) (hk : k < h0.nx) (ho : okS h k h0.ck = true) (a : RH E h w) {w' : World} (hw : ∀ x, h0.get k = some x → (E0 k).1 < w'.heap.size ∧ x.holds E0 k w') : RH E (h.only k) w' := by
  obtain ⟨g3, _⟩ := h1.get k hk ho
  have hget : ∀ j x, (h.only k).get j = some x → j = k ∧ h.get k = some x := fun j x hx => by
    have : (T.set 30 (.e : T Blk) k (h.t.get k)).get j = some x := hx
    rw [T.get_set] at this
    by_cases hj : j = k
    · rw [if_pos hj] at this; exact ⟨hj, this⟩
    · rw [if_neg hj, T.get_e] at this; cases this
  refine ⟨fun j x hx => ?_, fun j x hx => ?_, fun j x hx => ?_, fun j x hx => ?_, fun j x j' x' hx hx' _ => ?_⟩
  · obtain ⟨rfl, hx⟩ := hget j x hx; exact a.key _ _ hx
  · obtain ⟨rfl, hx⟩ := hget j x hx; exact a.lt _ _ hx
  · obtain ⟨rfl, hx⟩ := hget j x hx
    rw [hE _ hk]; exact (hw x (g3.symm.trans hx)).1
  · obtain ⟨rfl, hx⟩ := hget j x hx
    exact (Blk.holds_congr hE hk (a0 _ x (g3.symm.trans hx)).2).2 (hw x (g3.symm.trans hx)).2
  · obtain ⟨rfl, _⟩ := hget j x hx; exact (hget j' x' hx').1
theorem protOk_spec {j c : Nat} : ∀ {pr : List (Nat × Nat)}, protOk C h c j pr = true → ∀ i k, (i, k) ∈ pr → keepB C i j = true → okS h k c = true
  | [], _, i, k, hm, _ => by cases hm
  | (i0, k0) :: pr, hp, i, k, hm, hk => by
    simp only [protOk, Bool.and_eq_true, Bool.or_eq_true, Bool.not_eq_true'] at hp
    rcases List.mem_cons.1 hm with e | e
    · injection e with e1 e2
      subst e1 e2
      rcases hp.1 with q | q
      · rw [hk] at q; cases q
      · exact q
    · exact protOk_spec hp.2 i k e hk
/-- bits of the early ones -/
def dMask : List El → Nat
  | [] => 0
  | e :: D => Nat.lor (dMask D) (Nat.pow 2 e.i)
theorem dMask_bit {D : List El} {j : Nat} : (dMask D).testBit j = true ↔ ∃ e ∈ D, e.i = j := by
  induction D with
  | nil => simp [dMask]
  | cons e D ih =>
    simp only [dMask, lor_bit, Bool.or_eq_true, ih, decide_eq_true_eq, List.mem_cons, exists_eq_or_imp]
    exact ⟨fun h => h.elim .inr .inl, fun h => h.elim .inr .inl⟩
theorem setMask {L D j : Nat} : Nat.lor (Nat.lor L D) (Nat.pow 2 j) = Nat.lor L (Nat.lor D (Nat.pow 2 j)) := by
  show (L ||| D) ||| 2 ^ j = L ||| (D ||| 2 ^ j)
  rw [Nat.or_assoc]
theorem setMask' {L D j : Nat} : Nat.lor (Nat.lor L D) (Nat.pow 2 j) = Nat.lor (Nat.lor L (Nat.pow 2 j)) D := by
  show (L ||| D) ||| 2 ^ j = (L ||| 2 ^ j) ||| D
  rw [Nat.or_assoc, Nat.or_comm D, ← Nat.or_assoc]
theorem infos_get' {ops : List Oper} {j : Nat} {oj : Oper} (ho : ops.toArray[j]? = some oj) : (ops.map (oi ops.toArray))[j]? = some (oi ops.toArray oj) := by
  have : ops[j]? = some oj := by simpa using ho
  simp [this]
/-- two that neither waits for the other -/
theorem fG_apart {FM : Nat} (hF : fG FM (ops.map (oi ops.toArray)) 0 (ops.map (oi ops.toArray)) = true) {i j : Nat} {o oj : Oper} (ho : ops.toArray[i]? = some o) (hj : ops.toArray[j]? = some oj) (hi : FM.testBit i = true) (hne : j ≠ i)
    (h1 : (oi ops.toArray oj).p.testBit i = false) (h2 : (oi ops.toArray o).p.testBit j = false) : o.apart ops.toArray oj = true := by
  obtain ⟨_, ha⟩ := fG_spec _ 0 hF i _ (infos_get' ho) (by rw [Nat.zero_add]; exact hi)
  have := apG_spec _ 0 ha j _ (infos_get' hj)
  rw [Nat.zero_add, Nat.zero_add] at this
  rcases this with h | h | h | h
  · exact absurd h hne
  · rw [h1] at h; cases h
  · rw [h2] at h; cases h
  · exact apart_of h.1 h.2
theorem fG_noF {FM : Nat} (hF : fG FM (ops.map (oi ops.toArray)) 0 (ops.map (oi ops.toArray)) = true) {i : Nat} {o : Oper} (ho : ops.toArray[i]? = some o) (hi : FM.testBit i = true) {k : Nat} (hk : (oi ops.toArray o).p.testBit k = true) : FM.testBit k = false := by
  obtain ⟨ha, _⟩ := fG_spec _ 0 hF i _ (infos_get' ho) (by rw [Nat.zero_add]; exact hi)
  exact land_zero ha hk
theorem sub_of {p L k : Nat} (h : Nat.beq (Nat.land p L) p = true) (hk : p.testBit k = true) : L.testBit k = true := land_sub h k hk
/-- the registers that an operation looks at are as they were -/
theorem rget_apart {o oj : Oper} {v : AV} (hap : o.apart ops.toArray oj = true) (hp : rput n r oj.dst v = some r') : ∀ t ∈ o.looksAt ops.toArray, rget r' t = rget r t := fun t ht => by
  rcases rput_spec hp with ⟨_, rfl⟩ | ⟨d, hd, _, rfl⟩
  · rfl
  · rw [rget_set, if_neg]
    rintro rfl
    exact (Oper.apart_spec hap).2.2 _ hd ht
theorem evN_apart {o oj : Oper} {v : AV} (hap : o.apart ops.toArray oj = true) (hp : rput n r oj.dst v = some r') : evN P (opA r') o = evN P (opA r) o :=
  evN_congr fun x hx => by
    cases x with
    | tmp t => exact rget_apart hap hp t (List.mem_append_left _ (List.mem_filterMap.2 ⟨.tmp t, by simpa using hx, rfl⟩))
    | _ => rfl

theorem rput_some {d : Nat} {v : AV} (hd : d < n) : rput n r (some d) v = some (T.set 12 r d (some v)) := by
  have : Nat.blt d n = true := by simpa [Nat.blt_eq] using hd
  simp [rput, this]
theorem rput_of_gOK {o : Oper} (hx : evX P call n ops o r h = some (r', h')) : ∃ v, rput n r o.dst v = some r' := by
  unfold evX at hx
  split at hx
  · split at hx
    · next v h1 ho =>
      split at hx
      · next hp => simp only [Option.some.injEq, Prod.mk.injEq] at hx; obtain ⟨rfl, _⟩ := hx; exact ⟨v, hp⟩
      · cases hx
    · cases hx
  · split at hx
    · next hp => simp only [Option.some.injEq, Prod.mk.injEq] at hx; obtain ⟨rfl, _⟩ := hx; exact ⟨_, hp⟩
    · cases hx
  · cases hx
/-- one item of an order -/
theorem evD_cons {i kd : Nat} {l pr PF : List (Nat × Nat)} {re : R} {he : AH} (hev : evD P call n ops C h0 ((i, kd) :: l) r h pr = some (re, he, PF)) :
    ∃ o, ops[i]? = some o ∧
      ((kd = 1 ∧ ∃ d ty cs rr, o.guard = none ∧ o.dst = some d ∧ d < n ∧ evN P (opA r) o = some (ty, cs, rr) ∧ evD P call n ops C h0 l (T.set 12 r d (some (resA rr h.nx))) (h.new (.c ty cs)) pr = some (re, he, PF)) ∨
       (kd = 2 ∧ ∃ r1 h1, evX P call n ops o r h = some (r1, h1) ∧ protOk C h1 h0.ck i pr = true ∧ evD P call n ops C h0 l r1 h1 pr = some (re, he, PF)) ∨
       (kd ≠ 1 ∧ kd ≠ 2 ∧ ∃ v r1, rput n r o.dst v = some r1 ∧
         ((evD P call n ops C h0 l r1 h pr = some (re, he, PF) ∧ (gOK n ops r o = some false ∧ v = .v undef ∨ gOK n ops r o = some true ∧ evP P (opA r) emptyH o = some v)) ∨
          (∃ k, evD P call n ops C h0 l r1 h ((i, k) :: pr) = some (re, he, PF) ∧ gOK n ops r o = some true ∧ evP P (opA r) (h.only k) o = some v ∧ k < h0.nx ∧ okS h k h0.ck = true)))) := by
  simp only [evD] at hev
  cases ho : ops[i]? with
  | none => rw [ho] at hev; cases hev
  | some o =>
    rw [ho] at hev
    simp only at hev
    refine ⟨o, rfl, ?_⟩
    cases k1 : Nat.beq kd 1 with
    | true =>
      rw [k1] at hev
      simp only [cond_true] at hev
      left
      refine ⟨Nat.eq_of_beq_eq_true k1, ?_⟩
      split at hev
      · next d ty cs rr hg hd hn =>
        cases hb : Nat.blt d n with
        | false => rw [hb] at hev; cases hev
        | true =>
          rw [hb] at hev
          exact ⟨d, ty, cs, rr, hg, hd, by simpa [Nat.blt_eq] using hb, hn, hev⟩
      · cases hev
    | false =>
      rw [k1] at hev
      simp only [cond_false] at hev
      right
      cases k2 : Nat.beq kd 2 with
      | true =>
        rw [k2] at hev
        simp only [cond_true] at hev
        left
        refine ⟨Nat.eq_of_beq_eq_true k2, ?_⟩
        split at hev
        · next r1 h1 hx =>
          cases hb : protOk C h1 h0.ck i pr with
          | false => rw [hb] at hev; cases hev
          | true => rw [hb] at hev; exact ⟨r1, h1, hx, hb, hev⟩
        · cases hev
      | false =>
        rw [k2] at hev
        simp only [cond_false] at hev
        right
        refine ⟨T.beq_false k1, T.beq_false k2, ?_⟩
        split at hev
        · cases hev
        · next hg =>
          split at hev
          · next r1 hp => exact ⟨_, r1, hp, .inl ⟨hev, .inl ⟨hg, rfl⟩⟩⟩
          · cases hev
        · next hg =>
          cases k0 : Nat.beq kd 0 with
          | true =>
            rw [k0] at hev
            simp only [cond_true] at hev
            split at hev
            · next v hv =>
              split at hev
              · next r1 hp => exact ⟨v, r1, hp, .inl ⟨hev, .inr ⟨hg, hv⟩⟩⟩
              · cases hev
            · cases hev
          | false =>
            rw [k0] at hev
            simp only [cond_false] at hev
            split at hev
            · cases hev
            · next k hk =>
              cases hb : (Nat.blt k h0.nx && okS h k h0.ck) with
              | false => rw [hb] at hev; cases hev
              | true =>
                rw [hb] at hev
                simp only [cond_true] at hev
                rw [Bool.and_eq_true] at hb
                split at hev
                · cases hev
                · next v hv =>
                  split at hev
                  · cases hev
                  · next r1 hp => exact ⟨v, r1, hp, .inr ⟨k, hev, hg, hv, by simpa [Nat.blt_eq] using hb.1, hb.2⟩⟩
theorem goF_cons {I : List OI} {FM L i kd : Nat} {l : List (Nat × Nat)} (hg : goF I FM L ((i, kd) :: l) = true) :
    ∃ x, I[i]? = some x ∧ L.testBit i = false ∧ Nat.beq (Nat.land x.p L) x.p = true ∧ goF I FM (Nat.lor L (Nat.pow 2 i)) l = true ∧
      ((kd = 1 ∧ FM.testBit i = true ∧ allG (Nat.xor FM (Nat.pow 2 i)) FM L i 0 I = true) ∨
       (kd = 2 ∧ FM.testBit i = false ∧ allG FM FM L i 0 I = true) ∨
       (kd ≠ 1 ∧ kd ≠ 2 ∧ takeGo (fun _ => false) L i x 0 I = true)) := by
  simp only [goF, force_eq] at hg
  cases hx : I[i]? with
  | none => rw [hx] at hg; cases hg
  | some x =>
    rw [hx] at hg
    simp only at hg
    rw [Bool.and_eq_true, Bool.and_eq_true, Bool.and_eq_true, Bool.not_eq_true'] at hg
    obtain ⟨⟨⟨g1, g2⟩, g3⟩, g4⟩ := hg
    refine ⟨x, rfl, g1, g2, g4, ?_⟩
    cases k1 : Nat.beq kd 1 with
    | true =>
      rw [k1] at g3
      simp only [cond_true] at g3
      rw [Bool.and_eq_true] at g3
      exact .inl ⟨Nat.eq_of_beq_eq_true k1, g3.1, g3.2⟩
    | false =>
      rw [k1] at g3
      simp only [cond_false] at g3
      right
      cases k2 : Nat.beq kd 2 with
      | true =>
        rw [k2] at g3
        simp only [cond_true] at g3
        rw [Bool.and_eq_true, Bool.not_eq_true'] at g3
        exact .inl ⟨Nat.eq_of_beq_eq_true k2, g3.1, g3.2⟩
      | false =>
        rw [k2] at g3
        simp only [cond_false] at g3
        exact .inr ⟨T.beq_false k1, T.beq_false k2, g3⟩
theorem goF_un {I : List OI} {FM : Nat} : ∀ (l : List (Nat × Nat)) (L : Nat), goF I FM L l = true → ∀ i k, (i, k) ∈ l → L.testBit i = false
  | [], _, _, _, _, h => by cases h
  | (i0, k0) :: l, L, hg, i, k, hm => by
    obtain ⟨x, _, hL, _, hg', _⟩ := goF_cons hg
    rcases List.mem_cons.1 hm with e | e
    · injection e with e1; subst e1; exact hL
    · have := goF_un l _ hg' i k e
      rw [lor_bit, Bool.or_eq_false_iff] at this
      exact this.1
/-- of an early row: what comes later yields the same -/
theorem evD_F (hc : CallOK P call) {FM : Nat} (hF : fG FM (ops.map (oi ops.toArray)) 0 (ops.map (oi ops.toArray)) = true) {j : Nat} {o : Oper} (ho : ops.toArray[j]? = some o) (hj : FM.testBit j = true) {re : R} {he : AH} {PF : List (Nat × Nat)} :
    ∀ (l : List (Nat × Nat)) (L : Nat) (r : R) (h : AH) (pr : List (Nat × Nat)), goF (ops.map (oi ops.toArray)) FM L l = true → evD P call n ops C h0 l r h pr = some (re, he, PF) → (∀ k, (oi ops.toArray o).p.testBit k = true → L.testBit k = true) → (j, 1) ∈ l →
      ∃ d X, o.dst = some d ∧ d < n ∧ o.guard = none ∧ evN P (opA r) o = some X
  | [], L, r, h, pr, _, _, _, hm => by cases hm
  | (i, kd) :: l, L, r, h, pr, hg, hev, hp, hm => by
    obtain ⟨x, hx, hL, hpi, hg', hk⟩ := goF_cons hg
    obtain ⟨oI, hoi, hev'⟩ := evD_cons hev
    have hLj := goF_un _ _ hg j 1 hm
    by_cases hij : i = j
    · subst hij
      have e1 : oI = o := by have : ops[i]? = some o := by simpa using ho
                             rw [hoi] at this; injection this
      subst e1
      rcases List.mem_cons.1 hm with e | e
      · injection e with _ e2
        subst e2
        rcases hev' with ⟨_, d, ty, cs, rr, g1, g2, g3, g4, _⟩ | ⟨h1, _⟩ | ⟨h1, _⟩
        · exact ⟨d, _, g2, g3, g1, g4⟩
        · omega
        · exact absurd rfl h1
      · have := goF_un _ _ hg' i 1 e
        rw [lor_bit] at this
        simp at this
    · have hm' : (j, 1) ∈ l := by
        rcases List.mem_cons.1 hm with e | e
        · injection e with e1; exact absurd e1.symm hij
        · exact e
      have hoI : ops.toArray[i]? = some oI := by simpa using hoi
      have hxe : x = oi ops.toArray oI := by
        have := infos_get' hoI
        rw [hx] at this; injection this
      have hap : o.apart ops.toArray oI = true := fG_apart hF ho hoI hj hij (by
          cases hb : (oi ops.toArray oI).p.testBit j with
          | false => rfl
          | true => rw [← hxe] at hb; rw [sub_of hpi hb] at hLj; cases hLj) (by
          cases hb : (oi ops.toArray o).p.testBit i with
          | false => rfl
          | true => rw [hp i hb] at hL; cases hL)
      have hp' : ∀ k, (oi ops.toArray o).p.testBit k = true → (Nat.lor L (Nat.pow 2 i)).testBit k = true := fun k hk => by rw [lor_bit, hp k hk]; rfl
      have nxt : ∀ (v : AV) (r1 : R) (h1 : AH) (pr1 : List (Nat × Nat)), rput n r oI.dst v = some r1 → evD P call n ops C h0 l r1 h1 pr1 = some (re, he, PF) → ∃ d X, o.dst = some d ∧ d < n ∧ o.guard = none ∧ evN P (opA r) o = some X := fun v r1 h1 pr1 hput hev1 => by
        obtain ⟨d, X, a1, a2, a3, a4⟩ := evD_F hc hF ho hj l _ r1 h1 pr1 hg' hev1 hp' hm'
        rw [evN_apart hap hput] at a4
        exact ⟨d, X, a1, a2, a3, a4⟩
      rcases hev' with ⟨_, d, ty, cs, rr, g1, g2, g3, g4, hev1⟩ | ⟨_, r1, h1, hx1, _, hev1⟩ | ⟨_, _, v, r1, hput, ⟨hev1, _⟩ | ⟨k, hev1, _⟩⟩
      · exact nxt (resA rr h.nx) _ _ _ (by rw [g2]; exact rput_some g3) hev1
      · obtain ⟨v, hput⟩ := rput_of_gOK hx1
        exact nxt v r1 h1 _ hput hev1
      · exact nxt v r1 h _ hput hev1
      · exact nxt v r1 h _ hput hev1
theorem evD_ext (hc : CallOK P call) {PF : List (Nat × Nat)} : ∀ (l : List (Nat × Nat)) (r : R) (h : AH) (pr : List (Nat × Nat)), evD P call n ops C h0 l r h pr = some (r', h', PF) → Ext h h' ∧ (∀ p ∈ pr, p ∈ PF) ∧ ∀ i k, (i, k) ∈ PF → (i, k) ∈ pr ∨ ∃ hx, Ext h hx ∧ okS hx k h0.ck = true ∧ k < h0.nx
  | [], r, h, pr, hev => by simp only [evD, Option.some.injEq, Prod.mk.injEq] at hev; obtain ⟨_, rfl, rfl⟩ := hev; exact ⟨Ext.refl, fun p hp => hp, fun i k hm => .inl hm⟩
  | (i, kd) :: l, r, h, pr, hev => by
    obtain ⟨oI, hoi, hev'⟩ := evD_cons hev
    rcases hev' with ⟨_, d, ty, cs, rr, g1, g2, g3, g4, hev1⟩ | ⟨_, r1, h1, hx1, _, hev1⟩ | ⟨_, _, v, r1, hput, ⟨hev1, _⟩ | ⟨k, hev1, _, _, hk, ho⟩⟩
    · obtain ⟨a, b, c⟩ := evD_ext hc l _ _ _ hev1
      exact ⟨Ext.new.trans a, b, fun i k hm => (c i k hm).imp id fun ⟨hx, q1, q2⟩ => ⟨hx, Ext.new.trans q1, q2⟩⟩
    · obtain ⟨a, b, c⟩ := evD_ext hc l _ _ _ hev1
      exact ⟨(evX_ext hc hx1).trans a, b, fun i k hm => (c i k hm).imp id fun ⟨hx, q1, q2⟩ => ⟨hx, (evX_ext hc hx1).trans q1, q2⟩⟩
    · exact evD_ext hc l _ _ _ hev1
    · obtain ⟨a, b, c⟩ := evD_ext hc l _ _ _ hev1
      refine ⟨a, fun p hp => b p (List.mem_cons_of_mem _ hp), fun i' k' hm => ?_⟩
      rcases c i' k' hm with q | q
      · rcases List.mem_cons.1 q with e | e
        · injection e with e1 e2; subst e1 e2; exact .inr ⟨h, Ext.refl, ho, hk⟩
        · exact .inl e
      · exact .inr q
end
end Go.RE
