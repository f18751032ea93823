/- Part of a proof: the tools that its last text leans on (RE11). -/
import Derived.Test.YtehhdfocecbcpaaGreatRE10
namespace Go.RE
open Go Go.RowKit Go.Eng

mutual
def veq : Value → Value → Bool
  | .bool a, .bool b => a == b
  | .int .u64 a, .int .u64 b => decide (a = b)
  | .int .i64 a, .int .i64 b => decide (a = b)
  | .int .u8 a, .int .u8 b => decide (a = b)
  | .slice none 0 0, .slice none 0 0 => true
  | .pointer none, .pointer none => true
  | .agg ⟨a⟩, .agg ⟨b⟩ => veqL a b
  | _, _ => false
def veqL : List Value → List Value → Bool
  | [], [] => true
  | a :: l, b :: m => veq a b && veqL l m
  | _, _ => false
end
mutual
theorem veq_eq : ∀ (a b : Value), veq a b = true → a = b
  | .bool a, .bool b, h => by simp only [veq, beq_iff_eq] at h; rw [h]
  | .int .u64 a, .int .u64 b, h => by simp only [veq, decide_eq_true_eq] at h; rw [h]
  | .int .i64 a, .int .i64 b, h => by simp only [veq, decide_eq_true_eq] at h; rw [h]
  | .int .u8 a, .int .u8 b, h => by simp only [veq, decide_eq_true_eq] at h; rw [h]
  | .slice none 0 0, .slice none 0 0, _ => rfl
  | .pointer none, .pointer none, _ => rfl
  | .agg ⟨a⟩, .agg ⟨b⟩, h => by simp only [veq] at h; rw [veqL_eq a b h]
  | a, b, h => by
    unfold veq at h
    split at h <;> first
      | (simp only [beq_iff_eq] at h; rw [h]; done)
      | (simp only [decide_eq_true_eq] at h; rw [h]; done)
      | rfl
      | (rw [veqL_eq _ _ h]; done)
      | cases h
theorem veqL_eq : ∀ (a b : List Value), veqL a b = true → a = b
  | [], [], _ => rfl
  | a :: l, b :: m, h => by simp only [veqL, Bool.and_eq_true] at h; rw [veq_eq a b h.1, veqL_eq l m h.2]
  | [], _ :: _, h => by simp [veqL] at h
  | _ :: _, [], h => by simp [veqL] at h
end
/-- calls whose results are known -/
def memoF : List (Nat × List Value × Value) → CallF
  | [], _, _, _ => none
  | (g, vs, v) :: l, f, args, h => bif Nat.beq f g && (match valL args with | some us => veqL us vs | none => false) then some (.v v, h) else memoF l f args h
def KnownC (P : Program) (f : Nat) (vs : List Value) (v : Value) : Prop := (∀ as w, (callFunc f as).run P w = .ok (.enter f as) w) ∧ ∀ w, Calls P f ⟨vs⟩ w fun e w' => e = .returned v ∧ Below w.heap.size w w'
theorem RH.later {E : Env} {h : AH} {w w' : World} (a : RH E h w) (hb : Below w.heap.size w w') : RH E h w' ∧ Fr E h w E h w' :=
  ⟨a.other hb.size hb.block, ⟨hb.os, hb.tape, hb.output, hb.size, fun _ _ => rfl, Nat.le_refl _, fun q hq _ => hb.block q hq, fun k x hx => .inl ⟨k, x, hx, rfl⟩⟩⟩
theorem memoF_ok {P : Program} : ∀ {l : List (Nat × List Value × Value)}, (∀ e ∈ l, KnownC P e.1 e.2.1 e.2.2) → CallOK P (memoF l)
  | [], _ => fun f args h v h' hev => by cases hev
  | (g, vs, u) :: l, hk => fun f args h v h' hev => by
    simp only [memoF] at hev
    cases hb : (Nat.beq f g && (match valL args with | some us => veqL us vs | none => false)) with
    | false => rw [hb] at hev; exact memoF_ok (fun e he => hk e (List.mem_cons_of_mem _ he)) f args h v h' hev
    | true =>
      rw [hb] at hev
      simp only [cond_true, Option.some.injEq, Prod.mk.injEq] at hev
      obtain ⟨rfl, rfl⟩ := hev
      rw [Bool.and_eq_true] at hb
      have hf := Nat.eq_of_beq_eq_true hb.1
      subst hf
      obtain ⟨k1, k2⟩ := hk (f, vs, u) (by simp)
      refine ⟨Ext.refl, k1, fun E w r0 _ => ?_⟩
      have hv : embL E args = vs := by
        have h2 := hb.2
        split at h2
        · next us hu => rw [valL_emb E args us hu]; exact veqL_eq _ _ h2
        · cases h2
      rw [hv]
      refine (k2 w).mono ?_
      rintro e w' ⟨rfl, hbel⟩
      obtain ⟨q1, q2⟩ := r0.later hbel
      exact ⟨E, by simp [AV.emb], q2, q1, by simp [AV.lt]⟩
def orO (a b : CallF) : CallF := fun f args h => match a f args h with
  | some x => some x
  | none => b f args h
theorem orO_ok {P : Program} {a b : CallF} (ha : CallOK P a) (hb : CallOK P b) : CallOK P (orO a b) := fun f args h v h' hev => by
  unfold orO at hev
  split at hev
  · next x hx => injection hev with hev; subst hev; exact ha f args h v h' hx
  · exact hb f args h v h' hev
/-- is the result v -/
def isVal (v : Value) : Option (AV × AH) → Bool
  | some (.v x, _) => veq x v
  | some (.t l, _) => match valL l, v with
    | some us, .tuple ⟨vs⟩ => veqL us vs
    | _, _ => false
  | _ => false
theorem known_run {P : Program} {F : FT} {orc : CallF} {L k : Nat} (hF : FTok P F) (ho : CallOK P orc) {f : FuncId} {vs : List Value} {v : Value} (h : isVal v (callN P F orc L k f (vs.map .v) emptyH) = true) : KnownC P f vs v := by
  cases hc : callN P F orc L k f (vs.map .v) emptyH with
  | none => rw [hc] at h; cases h
  | some p =>
    obtain ⟨a, h'⟩ := p
    rw [hc] at h
    have ha : ∀ E, a.emb E = v := fun E => by
      unfold isVal at h
      split at h
      · next x _ hx =>
        injection hx with hx; injection hx with h1 _; subst h1
        simp only [AV.emb]; exact veq_eq _ _ h
      · next l _ hx =>
        injection hx with hx; injection hx with h1 _; subst h1
        split at h
        · next us vs hu =>
          simp only [AV.emb]; rw [valL_emb E _ _ hu, veqL_eq _ _ h]
        · cases h
      · cases h
    obtain ⟨_, k1, hh⟩ := callN_ok hF ho k _ _ _ _ _ hc
    refine ⟨k1, fun w => ?_⟩
    have emp : ∀ k x, emptyH.get k = some x → False := fun k x hx => by
      have h1 : (T.e : T Blk).get k = some x := hx
      rw [T.get_e] at h1; cases h1
    have hlt : ltL emptyH.nx (vs.map .v) := ltL_iff.2 fun x hx => by obtain ⟨y, _, rfl⟩ := List.mem_map.1 hx; simp [AV.lt]
    have he : embL (fun _ => (0, 0)) (vs.map .v) = vs := by
      rw [embL_map, List.map_map]
      conv => rhs; rw [← List.map_id vs]
      exact List.map_congr_left fun x _ => by simp [AV.emb]
    have := hh (fun _ => (0, 0)) w ⟨fun k x hx => (emp k x hx).elim, fun k x hx => (emp k x hx).elim, fun k x hx => (emp k x hx).elim, fun k x hx => (emp k x hx).elim, fun k x _ _ hx => (emp k x hx).elim⟩ hlt
    rw [he] at this
    refine this.mono ?_
    rintro e w' ⟨E', rfl, hfr, _, _⟩
    exact ⟨by rw [ha], ⟨hfr.os, hfr.tape, hfr.output, hfr.size, fun k hk => hfr.frame k hk fun j x hx => (emp j x hx).elim⟩⟩
end Go.RE
