/- Part of a proof: the tools that its last text leans on (RE10). -/
import Derived.Test.YtehhdfocecbcpaaGreatRE9
namespace Go.RE
open Go Go.RowKit Go.Eng

def T.All {α : Type} (p : Nat → α → Prop) : T α → (Nat → Nat) → Prop
  | .e, _ => True
  | .n l x r, g => (∀ y, x = some y → p (g 0) y) ∧ T.All p l (fun k => g (2 * k + 1)) ∧ T.All p r (fun k => g (2 * k + 2))
  | .c _ _ _, _ => False
theorem T.All.get {α : Type} {p : Nat → α → Prop} : ∀ {t : T α} {g : Nat → Nat}, T.All p t g → ∀ {k y}, t.get k = some y → p (g k) y
  | .e, _, _, k, y, h => by rw [T.get_e] at h; cases h
  | .n l x r, g, ha, k, y, h => by
    obtain ⟨h1, h2, h3⟩ := ha
    cases k with
    | zero => exact h1 y (by simpa [T.get] using h)
    | succ k =>
      simp only [T.get] at h
      cases hb : Nat.beq (k % 2) 0 with
      | true =>
        rw [hb] at h
        have := Nat.eq_of_beq_eq_true hb
        have e := T.All.get h2 h
        rw [show 2 * (k / 2) + 1 = k + 1 by omega] at e; exact e
      | false =>
        rw [hb] at h
        have := T.beq_false hb
        have e := T.All.get h3 h
        rw [show 2 * (k / 2) + 2 = k + 1 by omega] at e; exact e
  | .c _ _ _, _, ha, _, _, _ => ha.elim
def T.allB {α : Type} (p : Nat → α → Bool) : T α → (Nat → Nat) → Bool
  | .e, _ => true
  | .n l x r, g => (match x with | some y => p (g 0) y | none => true) && (T.allB p l (fun k => g (2 * k + 1)) && T.allB p r (fun k => g (2 * k + 2)))
  | .c _ _ _, _ => false
theorem T.allB_spec {α : Type} {p : Nat → α → Bool} : ∀ {t : T α} {g : Nat → Nat}, T.allB p t g = true → T.All (fun k y => p k y = true) t g
  | .e, _, _ => trivial
  | .n l x r, g, h => by
    simp only [T.allB, Bool.and_eq_true] at h
    refine ⟨fun y hy => ?_, T.allB_spec h.2.1, T.allB_spec h.2.2⟩
    rw [hy] at h; exact h.1
  | .c _ _ _, _, h => by cases h
def ordF (od : T (T (List (Nat × Nat) × List Nat))) (f : Nat) : OrdT := match od.get f with
  | some t => t.get
  | none => fun _ => none
def ftOf (fn : T Func) (od : T (T (List (Nat × Nat) × List Nat))) : FT := ⟨fn.get, ordF od⟩
def chkF (od : T (T (List (Nat × Nat) × List Nat))) (f : Nat) (fn : Func) : Bool := !(fn.name == "runtime.NumGoroutine") && match fn.body with
  | some c => okC (ordF od f) c
  | none => true
theorem ok1 {P : Program} {f : Nat} {fn : Func} (h : P.funcs[f]? = some fn) : ∀ y, some fn = some y → P.funcs[f]? = some y := fun y e => by injection e with e; rw [h, e]
theorem ftOf_ok {P : Program} {fn : T Func} {od : T (T (List (Nat × Nat) × List Nat))} (hm : P.follows .mixedOrders = true) (h : T.All (fun f fn => P.funcs[f]? = some fn) fn id) (hc : T.allB (chkF od) fn id = true) : FTok P (ftOf fn od) :=
  ⟨hm, fun f g hg => by
    have h1 : P.funcs[f]? = some g := h.get hg
    have h2 : chkF od f g = true := (T.allB_spec hc).get hg
    unfold chkF at h2
    rw [Bool.and_eq_true, Bool.not_eq_true'] at h2
    refine ⟨h1, h2.1, fun c hb => ?_⟩
    have := h2.2
    rw [hb] at this
    exact this⟩
end Go.RE
