/- Part of a proof: the tools that its last text leans on (RW2). -/
import Derived.Test.YtehhdfocecbcpaaGreatRW1
set_option maxRecDepth 1000000
namespace Go.RE
open Go Go.RowKit Go.Eng
/-- a call that takes one row of its caller and leaves it as it is -/
theorem row_call {P : Program} {F : FT} {orc : CallF} {L k : Nat} (hF : FTok P F) (ho : CallOK P orc) {g : FuncId} {bs : List Bool} {ty : TypeId} {cs : List AV} {n : Nat} {xs : List Value} {u : Value} {conds : List (AV × Bool)} (hl : ∀ N, ltL N cs) (he : ∀ E E', embL E cs = embL E' cs)
    (hrun : (callW P F orc L k g bs (.s 0 0 n (some n) :: xs.map .v) ⟨T.set 30 .e 0 (some (.c ty cs)), 1, .e, 0⟩).map (fun p => (p.1, p.2.1.get 0, p.2.2)) = some (.v u, some (.c ty cs), conds)) (hp : pathOk conds) (hno : ∀ h, orc g (.s 0 0 n (some n) :: xs.map .v) h = none)
    {E : Env} {h : AH} {w : World} (r0 : RH E h w) {kk : Nat} (hk : h.get kk = some (.c ty cs)) : (∀ vs w, (callFunc g vs).run P w = .ok (.enter g vs) w) ∧ Calls P g ⟨embL E (.s kk 0 n (some n) :: xs.map .v)⟩ w fun e w' => e = .returned u ∧ Below w.heap.size w w' := by
  cases hc : callW P F orc L k g bs (.s 0 0 n (some n) :: xs.map .v) ⟨T.set 30 .e 0 (some (.c ty cs)), 1, .e, 0⟩ with
  | none => rw [hc] at hrun; cases hrun
  | some p =>
    obtain ⟨v, h', cs'⟩ := p
    rw [hc] at hrun
    simp only [Option.map_some, Option.some.injEq, Prod.mk.injEq] at hrun
    obtain ⟨rfl, hg, rfl⟩ := hrun
    have hcall := callW_ok hc hp (hno _)
    obtain ⟨_, k1, hh⟩ := callN_ok hF ho (k + 1) _ _ _ _ _ hcall
    refine ⟨k1, ?_⟩
    have hget : ∀ j z, (⟨T.set 30 .e 0 (some (.c ty cs)), 1, .e, 0⟩ : AH).get j = some z → j = 0 ∧ z = .c ty cs := fun j z hz => by
      have h2 : (T.set 30 (.e : T Blk) 0 (some (.c ty cs))).get j = some z := hz
      rw [T.get_set] at h2
      by_cases hj : j = 0
      · rw [if_pos hj] at h2; injection h2 with h2; exact ⟨hj, h2.symm⟩
      · rw [if_neg hj, T.get_e] at h2; cases h2
    have hb : w.heap[(E kk).1]? = some (.cells ⟨embL E cs⟩ ty (0, 0)) := r0.holds kk _ hk
    have hv : ∀ (E' : Env), embL E' (xs.map AV.v) = xs := fun E' => by
      rw [embL_map, List.map_map]
      conv => rhs; rw [← List.map_id xs]
      exact List.map_congr_left fun x _ => by simp [AV.emb]
    have := hh (fun _ => E kk) w ⟨fun j z hz => by obtain ⟨rfl, _⟩ := hget j z hz; exact Nat.one_pos, fun j z hz => by obtain ⟨_, rfl⟩ := hget j z hz; exact hl _,
      fun j z hz => by obtain ⟨rfl, rfl⟩ := hget j z hz; exact r0.sz kk _ hk, fun j z hz => by obtain ⟨rfl, rfl⟩ := hget j z hz; simp only [Blk.holds]; rw [he _ E]; exact hb, fun j z j' z' h2 h3 _ => by rw [(hget j z h2).1, (hget j' z' h3).1]⟩ (by
        simp only [ltL]
        exact ⟨by simp [AV.lt], ltL_iff.2 fun x hx => by obtain ⟨y, _, rfl⟩ := List.mem_map.1 hx; simp [AV.lt]⟩)
    simp only [embL, AV.emb, hv] at this ⊢
    refine this.mono ?_
    rintro e w' ⟨E', rfl, hfr, hr, _⟩
    refine ⟨rfl, hfr.os, hfr.tape, hfr.output, hfr.size, fun q hq => ?_⟩
    by_cases hqb : q = (E kk).1
    · subst hqb
      have h4 := hr.holds 0 _ hg
      have h5 : E' 0 = E kk := hfr.env 0 Nat.one_pos
      simp only [Blk.holds, h5] at h4
      rw [h4, hb, he E' E]
    · exact hfr.frame q hq fun j z hz => fun e => hqb e.symm
/-- what 'Few' says of one act -/
def fewB : Value → Bool
  | .slice _ n _ => !decide ((3000 : Int) < (n : Int))
  | _ => true
def fewO : CallF := fun g args h => bif Nat.beq g 5 then (match args with
  | [.s kk 0 1 (some 1), .v (.int .i64 1)] => (match h.get kk with
    | some (.c 24 [.v (.int .i64 _), .v (.int .i64 _), .v (.int .i64 _), .v (.slice (some a) n c)]) => some (.v (.bool (fewB (.slice (some a) n c))), h)
    | some (.c 24 [.v (.int .i64 _), .v (.int .i64 _), .v (.int .i64 _), .v (.slice none 0 0)]) => some (.v (.bool true), h)
    | _ => none)
  | _ => none) else none
theorem noO_ok {P : Program} : CallOK P noO := fun f args h v h' hev => by cases hev
theorem fewO_ok : CallOK Go.Proofs.Tryz.prog fewO := fun g args h v h' hev => by
  unfold fewO at hev
  cases hb : Nat.beq g 5 with
  | false => rw [hb] at hev; cases hev
  | true =>
    rw [hb] at hev
    have := Nat.eq_of_beq_eq_true hb
    subst this
    simp only [cond_true] at hev
    have fin : ∀ (kk : Nat) (u : Value), some ((.v u : AV), h) = some (v, h') → (∀ E w, RH E h w → (∀ vs w, (callFunc 5 vs).run Go.Proofs.Tryz.prog w = .ok (.enter 5 vs) w) ∧ Calls Go.Proofs.Tryz.prog 5 ⟨embL E (.s kk 0 1 (some 1) :: [Value.int .i64 1].map .v)⟩ w fun e w' => e = .returned u ∧ Below w.heap.size w w') →
        (∀ vs w, (callFunc 5 vs).run Go.Proofs.Tryz.prog w = .ok (.enter 5 vs) w) → Ext h h' ∧ (∀ vs w, (callFunc 5 vs).run Go.Proofs.Tryz.prog w = .ok (.enter 5 vs) w) ∧
        ∀ E w, RH E h w → ltL h.nx [.s kk 0 1 (some 1), .v (.int .i64 1)] → Calls Go.Proofs.Tryz.prog 5 ⟨embL E [.s kk 0 1 (some 1), .v (.int .i64 1)]⟩ w fun e w' => ∃ E', e = .returned (v.emb E') ∧ Fr E h w E' h' w' ∧ RH E' h' w' ∧ v.lt h'.nx := fun kk u hev hh hcf => by
      simp only [Option.some.injEq, Prod.mk.injEq] at hev
      obtain ⟨rfl, rfl⟩ := hev
      refine ⟨Ext.refl, hcf, fun E w r0 _ => ?_⟩
      have := (hh E w r0).2
      simp only [List.map_cons, List.map_nil] at this
      refine this.mono ?_
      rintro e w' ⟨rfl, hbel⟩
      obtain ⟨q1, q2⟩ := r0.later hbel
      exact ⟨E, by simp [AV.emb], q2, q1, by simp [AV.lt]⟩
    have hcf : ∀ vs w, (callFunc 5 vs).run Go.Proofs.Tryz.prog w = .ok (.enter 5 vs) w := fun vs w => Go.Proofs.Tryz.call5 vs w
    split at hev
    · next kk =>
      split at hev
      · next kd wh ix a n c hk =>
        refine fin kk _ hev (fun E w r0 => ?_) hcf
        cases hd : decide ((3000 : Int) < (n : Int)) with
        | true =>
          simp only [fewB, hd, Bool.not_true]
          exact row_call ft_ok noO_ok (by simp [ltL, AV.lt]) (fun E E' => by simp [embL, AV.emb]) (few_many kd wh ix a n c) (by intro p hp; simp at hp; rcases hp with rfl | rfl <;> simp [hd]) (fun _ => rfl) r0 hk
        | false =>
          simp only [fewB, hd, Bool.not_false]
          exact row_call ft_ok noO_ok (by simp [ltL, AV.lt]) (fun E E' => by simp [embL, AV.emb]) (few_few kd wh ix a n c) (by intro p hp; simp at hp; rcases hp with rfl | rfl | rfl <;> simp [hd]) (fun _ => rfl) r0 hk
      · next kd wh ix hk =>
        refine fin kk _ hev (fun E w r0 => ?_) hcf
        exact row_call ft_ok noO_ok (by simp [ltL, AV.lt]) (fun E E' => by simp [embL, AV.emb]) (few_nil kd wh ix) (by intro p hp; simp at hp; rcases hp with rfl | rfl | rfl <;> simp) (fun _ => rfl) r0 hk
      · cases hev
    · cases hev
end Go.RE
