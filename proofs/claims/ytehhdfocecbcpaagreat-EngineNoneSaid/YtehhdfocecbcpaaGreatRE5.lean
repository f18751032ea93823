/- Part of a proof: the tools that its last text leans on (RE5). -/
import Derived.Test.YtehhdfocecbcpaaGreatRE4
namespace Go.RE
open Go Go.RowKit Go.Eng

/-! ### registers -/
abbrev R := T AV
def rget (r : R) (i : Nat) : AV := match T.get r i with
  | some x => x
  | none => .v undef
def opA (r : R) : Operand → AV
  | .tmp t => rget r t
  | .const v => .v v
  | .global g => .v (.pointer (some ⟨g, 0, none⟩))
  | .func f => .f (.func f) []
def rho (E : Env) (r : R) : Rg := fun t => (rget r t).emb E
/-- registers, with calls that are deferred -/
def actD (ds : List Deferred) (n : Nat) (ρ : Rg) : Act := ⟨(acts n ρ).tmps, ds⟩
theorem actD_eval {ds : List Deferred} {n : Nat} {ρ : Rg} : (actD ds n ρ).eval = (acts n ρ).eval := by funext x; cases x <;> rfl
theorem actD_put (ds : List Deferred) (n : Nat) (ρ : Rg) (d : Nat) (v : Value) : (actD ds n ρ).put (some d) v = actD ds n (upd ρ d v) := by
  have h := acts_put n ρ d v
  unfold actD
  rw [← h]; rfl
def A (ds : List Deferred) (n : Nat) (E : Env) (r : R) : Act := actD ds n (rho E r)
structure RW (n : Nat) (r : R) (N : Nat) : Prop where
  lt : ∀ t, (rget r t).lt N
  out : ∀ t, n ≤ t → T.get r t = none
theorem RW.mono {n r N N'} (h : RW n r N) (hN : N ≤ N') : RW n r N' := ⟨fun t => AV.lt_mono hN _ (h.lt t), h.out⟩
theorem opA_lt {n r N} (h : RW n r N) (x : Operand) : (opA r x).lt N := by
  cases x with
  | tmp t => exact h.lt t
  | const v => simp [opA, AV.lt]
  | global g => simp [opA, AV.lt]
  | func f => simp [opA, AV.lt, ltL]
theorem acts_tmps {ds : List Deferred} {n : Nat} {ρ : Rg} {t : Nat} : (actD ds n ρ).tmps[t]? = if t < n then some (ρ t) else none := by
  unfold actD acts
  by_cases h : t < n <;> simp [h]
theorem A_evalG {ds : List Deferred} {n : Nat} {E : Env} {r : R} {ρ : Rg} (hr : ∀ t, n ≤ t → T.get r t = none) (x : Operand) (h : ∀ t, x = .tmp t → ρ t = (rget r t).emb E) : (actD ds n ρ).eval x = (opA r x).emb E := by
  cases x with
  | tmp t =>
    show (actD ds n ρ).tmps.getD t undef = _
    rw [Array.getD_eq_getD_getElem?, acts_tmps]
    by_cases ht : t < n
    · simp [ht, opA, h t rfl]
    · have : n ≤ t := Nat.le_of_not_lt ht
      simp [ht, opA, rget, hr t this, AV.emb]
  | const v => simp [opA, AV.emb, Act.eval]
  | global g => simp [opA, AV.emb, Act.eval]
  | func f => simp [opA, AV.emb, Act.eval, embL]
theorem rho_congr {E E' : Env} {n : Nat} {r : R} {N : Nat} (h : ∀ k, k < N → E' k = E k) (hr : RW n r N) : rho E' r = rho E r := by
  funext t; exact AV.emb_congr h _ (hr.lt t)
/-- into a register -/
def rput (n : Nat) (r : R) (dst : Option Tmp) (v : AV) : Option R := match dst with
  | none => some r
  | some d => bif Nat.blt d n then some (T.set 12 r d (some v)) else none
theorem rget_set {r : R} {d : Nat} {v : AV} {t : Nat} : rget (T.set 12 r d (some v)) t = if t = d then v else rget r t := by
  unfold rget; rw [T.get_set]; by_cases h : t = d <;> simp [h]
theorem rho_put {E : Env} {r : R} {d : Nat} {v : AV} : rho E (T.set 12 r d (some v)) = upd (rho E r) d (v.emb E) := by
  funext t
  simp only [rho, rget_set, upd]
  by_cases h : t = d
  · subst h; simp
  · have : Nat.beq t d = false := by apply Bool.eq_false_iff.2; intro hb; exact h (Nat.eq_of_beq_eq_true hb)
    simp [h, this]
theorem RW.put {n r N} (h : RW n r N) {d : Nat} {v : AV} (hd : d < n) (hv : v.lt N) : RW n (T.set 12 r d (some v)) N := by
  refine ⟨fun t => ?_, fun t ht => ?_⟩
  · rw [rget_set]; split
    · exact hv
    · exact h.lt t
  · rw [T.get_set, if_neg (by omega)]; exact h.out t ht
theorem rput_spec {n : Nat} {r r' : R} {dst : Option Tmp} {v : AV} (h : rput n r dst v = some r') :
    (dst = none ∧ r' = r) ∨ ∃ d, dst = some d ∧ d < n ∧ r' = T.set 12 r d (some v) := by
  unfold rput at h
  split at h
  · injection h with h; exact .inl ⟨rfl, h.symm⟩
  · next d =>
    cases hb : Nat.blt d n with
    | false => rw [hb] at h; cases h
    | true => rw [hb] at h; injection h with h; exact .inr ⟨d, rfl, by simpa [Nat.blt_eq] using hb, h.symm⟩
theorem RW.rput {n r N r'} (h : RW n r N) {dst : Option Tmp} {v : AV} (hv : v.lt N) (hp : rput n r dst v = some r') : RW n r' N := by
  rcases rput_spec hp with ⟨_, rfl⟩ | ⟨d, _, hd, rfl⟩
  · exact h
  · exact h.put hd hv
/-- of registers that are the same -/
theorem put_acts {ds : List Deferred} {n : Nat} {ρ : Rg} {dst : Option Tmp} {v : Value} : (actD ds n ρ).put dst v = actD ds n (match dst with | some d => upd ρ d v | none => ρ) := by
  cases dst with
  | none => rfl
  | some d => exact actD_put ds n ρ d v
theorem rput_rho {n : Nat} {E : Env} {r r' : R} {dst : Option Tmp} {v : AV} (h : rput n r dst v = some r') : rho E r' = match dst with | some d => upd (rho E r) d (v.emb E) | none => rho E r := by
  rcases rput_spec h with ⟨rfl, rfl⟩ | ⟨d, rfl, _, rfl⟩
  · rfl
  · exact rho_put
/-- is an operation wanted -/
def gOK (n : Nat) (ops : List Oper) (r : R) (o : Oper) : Option Bool := match o.guard with
  | none => some true
  | some (j, want) => match ops[j]? with
    | some o' => match o'.dst with
      | some d => bif Nat.blt d n then (match rget r d with
        | .v (.bool b) => some (b == want)
        | .v (.tuple _) => some false
        | _ => none) else none
      | none => none
    | none => none
theorem gOK_spec {ds : List Deferred} {n : Nat} {ops : List Oper} {r : R} {o : Oper} {b : Bool} {E : Env} {ρ : Rg} (h : gOK n ops r o = some b) (hρ : ∀ d, d ∈ o.looksAt ops.toArray → ρ d = (rget r d).emb E) : Region.wanted o (yielded ops.toArray (actD ds n ρ).tmps) = b := by
  unfold gOK at h
  unfold Region.wanted
  split at h
  · next hg => injection h with h; rw [hg]; exact h
  · next j want hg =>
    rw [hg]
    simp only
    split at h
    · next o' ho =>
      split at h
      · next d hd =>
        cases hb : Nat.blt d n with
        | false => rw [hb] at h; cases h
        | true =>
          rw [hb] at h
          simp only [cond_true] at h
          have hlt : d < n := by simpa [Nat.blt_eq] using hb
          have hl : d ∈ o.looksAt ops.toArray := by
            unfold Oper.looksAt
            rw [hg]
            refine List.mem_append_right _ ?_
            simp [ho, hd]
          unfold yielded
          have e1 : ((ops.toArray[j]?).bind (·.dst)) = some d := by simp [ho, hd]
          rw [e1]
          simp only [Option.bind_some, acts_tmps, hlt, if_true, hρ d hl]
          split at h
          · next b' hb' => injection h with h; rw [hb']; simp only [AV.emb]; rw [← h]; rfl
          · next vs hb' => injection h with h; rw [hb', ← h]; simp [AV.emb]
          · cases h
      · cases h
    · cases h

/-! ### one operation -/
abbrev CallF := FuncId → List AV → AH → Option (AV × AH)
def CallOK (P : Program) (call : CallF) : Prop := ∀ f args h v h', call f args h = some (v, h') → Ext h h' ∧ (∀ as w, (callFunc f as).run P w = .ok (.enter f as) w) ∧
  ∀ E w, RH E h w → ltL h.nx args → Calls P f ⟨embL E args⟩ w fun e w' => ∃ E', e = .returned (v.emb E') ∧ Fr E h w E' h' w' ∧ RH E' h' w' ∧ v.lt h'.nx
def evCall (call : CallF) (ρ : Operand → AV) (h : AH) : Op → Option (AV × AH)
  | .call ⟨.value f, args, _⟩ => match ρ f with
    | .f (.func g) cs => call g (avOps ρ args.toList ++ cs) h
    | _ => none
  | _ => none
def evOp (P : Program) (call : CallF) (ρ : Operand → AV) (h : AH) (o : Oper) : Option (AV × AH) :=
  match evP P ρ h o with
  | some v => some (v, h)
  | none => match evH P ρ h o with
    | some x => some x
    | none => evCall call ρ h o.op
section
variable {P : Program} {call : CallF} {h h' : AH} {E : Env} {w : World} {n : Nat} {r r' : R} {a : Act} {Q : Exit → Act → World → Prop}
theorem evOp_ext (hc : CallOK P call) {ρ : Operand → AV} {o : Oper} {v : AV} (hev : evOp P call ρ h o = some (v, h')) : Ext h h' := by
  unfold evOp at hev
  split at hev
  · simp only [Option.some.injEq, Prod.mk.injEq] at hev; obtain ⟨_, rfl⟩ := hev; exact Ext.refl
  · split at hev
    · next x hx => injection hev with hev; subst hev; exact evH_ext hx
    · unfold evCall at hev
      split at hev
      · split at hev
        · exact (hc _ _ _ _ _ hev).1
        · cases hev
      · cases hev
theorem evOp_spec (hc : CallOK P call) {o : Oper} {v : AV} (r0 : RH E h w) (hr : RW n r h.nx) (hε : ∀ x ∈ o.op.operands, a.eval x = (opA r x).emb E) (hev : evOp P call (opA r) h o = some (v, h')) {K : Act → World → Prop}
    (hK : ∀ E' w', Fr E h w E' h' w' → RH E' h' w' → v.lt h'.nx → K (a.put o.dst (v.emb E')) w') : o.wp P a w K Q := by
  unfold Oper.wp
  unfold evOp at hev
  split at hev
  · next u hu =>
    simp only [Option.some.injEq, Prod.mk.injEq] at hev
    obtain ⟨rfl, rfl⟩ := hev
    obtain ⟨h1, h2⟩ := evP_spec (w := w) r0 (Nat.le_refl _) (fun x _ => opA_lt hr x) hε hu
    rw [h1]
    exact hK E w Fr.refl r0 h2
  · split at hev
    · next x hx =>
      injection hev with hev; subst hev
      obtain ⟨E', w', h1, h2, h3, h4⟩ := evH_spec r0 (fun x _ => opA_lt hr x) hε hx
      rcases h1 with h1 | ⟨h1, rfl⟩
      · rw [h1]; exact hK E' w' h3 h2 h4
      · rw [h1]; have := hK E' w' h3 h2 h4; simp only [AV.emb] at this; exact this
    · obtain ⟨dst, op, ty, pos, af, gd⟩ := o
      simp only at hε hev ⊢
      unfold evCall at hev
      split at hev
      · next f args tys _ _ =>
        split at hev
        · next g cs hg =>
          obtain ⟨_, hb, hcall⟩ := hc _ _ _ _ _ hev
          have ha : args.map a.eval = ⟨embL E (avOps (opA r) args.toList)⟩ := by
            have := avOps_emb (ρ := opA r) (E := E) (ε := a.eval) (l := args.toList) (fun x hx => hε x (by simp only [Op.operands, Call.operands]; simp; right; simpa using hx))
            rw [← this]; exact Array.ext' (by simp)
          have hf := hε f (by simp [Op.operands, Call.operands])
          rw [hg] at hf
          simp only [AV.emb] at hf
          have hlt : ltL h.nx (avOps (opA r) args.toList ++ cs) := ltL_append.2 ⟨avOps_lt fun x _ => opA_lt hr x, by have := opA_lt hr f; rw [hg] at this; simpa [AV.lt] using this⟩
          have hrun : (execOp a.eval ⟨dst, .call ⟨.value f, args, tys⟩, ty, pos, af, gd⟩).run P w = .ok (.enter g ⟨embL E (avOps (opA r) args.toList ++ cs)⟩) w := by
            have e1 : (⟨embL E (avOps (opA r) args.toList)⟩ : Array Value) ++ (⟨embL E cs⟩ : Array Value) = ⟨embL E (avOps (opA r) args.toList ++ cs)⟩ := by rw [embL_append]; simp
            generalize a.eval = ε at ha hf ⊢
            simp only [execOp, resolve]
            simp [ha, hf, Deferred.ofValue, invoke, go_sem, e1, hb, -List.append_toArray]
          rw [hrun]
          show Calls _ _ _ _ _
          refine (hcall E w r0 hlt).mono ?_
          rintro e w' ⟨E', rfl, h1, h2, h3⟩
          exact hK E' w' h1 h2 h3
        · cases hev
      · cases hev
end
end Go.RE
