/- Part of a proof: the tools that its last text leans on (RE13). -/
import Derived.Test.YtehhdfocecbcpaaGreatRE12
namespace Go.RE
open Go Go.RowKit Go.Eng

/-! ### a run along a path: the path's conditions are handed back -/
abbrev WR := Option (Exit × R × AH × List Bool × List (AV × Bool))
def loopW (body : List Bool → R → AH → WR) : Nat → List Bool → R → AH → WR
  | 0, _, _, _ => none
  | k + 1, bs, r, h => match body bs r h with
    | some (.normal, r', h', bs', cs) => (match loopW body k bs' r' h' with
      | some (e, r2, h2, bs2, cs2) => some (e, r2, h2, bs2, cs ++ cs2)
      | none => none)
    | some (.exit id, r', h', bs', cs) => some (.exit id, r', h', bs', cs)
    | some (.ret, r', h', bs', cs) => some (.ret, r', h', bs', cs)
    | _ => none
def thenW (k : List Bool → R → AH → WR) : WR → WR
  | some (.normal, r', h', bs', cs) => (match k bs' r' h' with
      | some (e, r2, h2, bs2, cs2) => some (e, r2, h2, bs2, cs ++ cs2)
      | none => none)
  | some (.exit id, r', h', bs', cs) => some (.exit id, r', h', bs', cs)
  | some (.ret, r', h', bs', cs) => some (.ret, r', h', bs', cs)
  | _ => none
def evW (P : Program) (call : CallF) (n : Nat) (ordT : OrdT) (L : Nat) : Code → List Bool → R → AH → WR
  | .skip, bs, r, h => some (.normal, r, h, bs, [])
  | .region id ops d, bs, r, h => match (bif d then evR P call n ordT id ops.toList r h else evOps P call n ops.toList ops.toList r h) with
    | some (r', h') => some (.normal, r', h', bs, [])
    | none => none
  | .seq x y, bs, r, h => thenW (evW P call n ordT L y) (evW P call n ordT L x bs r h)
  | .cond c x y, bs, r, h => match bs with
    | true :: bs => (match evW P call n ordT L x bs r h with
      | some (e, r2, h2, bs2, cs2) => some (e, r2, h2, bs2, (opA r c, true) :: cs2)
      | none => none)
    | false :: bs => (match evW P call n ordT L y bs r h with
      | some (e, r2, h2, bs2, cs2) => some (e, r2, h2, bs2, (opA r c, false) :: cs2)
      | none => none)
    | [] => none
  | .block id x, bs, r, h => match evW P call n ordT L x bs r h with
    | some (.exit id', r', h', bs', cs) => bif Nat.beq id' id then some (.normal, r', h', bs', cs) else some (.exit id', r', h', bs', cs)
    | e => e
  | .loop x, bs, r, h => loopW (evW P call n ordT L x) L bs r h
  | .exit id, bs, r, h => some (.exit id, r, h, bs, [])
  | .ret, bs, r, h => some (.ret, r, h, bs, [])
  | .label _, bs, r, h => some (.normal, r, h, bs, [])
  | _, _, _, _ => none
def pathOk (cs : List (AV × Bool)) : Prop := ∀ p ∈ cs, p.1 = .v (.bool p.2)
theorem pathOk_app {a b : List (AV × Bool)} (h : pathOk (a ++ b)) : pathOk a ∧ pathOk b :=
  ⟨fun p hp => h p (List.mem_append_left _ hp), fun p hp => h p (List.mem_append_right _ hp)⟩
section
variable {P : Program} {call : CallF} {n : Nat} {ordT : OrdT} {L : Nat}
theorem loopW_ok {body : List Bool → R → AH → WR} {bodyC : R → AH → Option (Exit × R × AH)} (hb : ∀ bs r h e r' h' bs' cs, body bs r h = some (e, r', h', bs', cs) → pathOk cs → bodyC r h = some (e, r', h')) :
    ∀ (k : Nat) (bs : List Bool) (r : R) (h : AH) (e : Exit) (r' : R) (h' : AH) (bs' : List Bool) (cs : List (AV × Bool)), loopW body k bs r h = some (e, r', h', bs', cs) → pathOk cs → loopN bodyC k r h = some (e, r', h')
  | 0, _, _, _, _, _, _, _, _, hl, _ => by cases hl
  | k + 1, bs, r, h, e, r', h', bs', cs, hl, hp => by
    simp only [loopW] at hl
    simp only [loopN]
    split at hl
    · next r1 h1 b1 c1 hx =>
      split at hl
      · next e2 r2 h2 b2 c2 hy =>
        simp only [Option.some.injEq, Prod.mk.injEq] at hl
        obtain ⟨rfl, rfl, rfl, rfl, rfl⟩ := hl
        obtain ⟨p1, p2⟩ := pathOk_app hp
        rw [hb _ _ _ _ _ _ _ _ hx p1]
        exact loopW_ok hb k _ _ _ _ _ _ _ _ hy p2
      · cases hl
    · next hx =>
      simp only [Option.some.injEq, Prod.mk.injEq] at hl
      obtain ⟨rfl, rfl, rfl, rfl, rfl⟩ := hl
      rw [hb _ _ _ _ _ _ _ _ hx hp]
    · next hx =>
      simp only [Option.some.injEq, Prod.mk.injEq] at hl
      obtain ⟨rfl, rfl, rfl, rfl, rfl⟩ := hl
      rw [hb _ _ _ _ _ _ _ _ hx hp]
    · cases hl
theorem evW_ok : ∀ (c : Code) (bs : List Bool) (r : R) (h : AH) (e : Exit) (r' : R) (h' : AH) (bs' : List Bool) (cs : List (AV × Bool)), evW P call n ordT L c bs r h = some (e, r', h', bs', cs) → pathOk cs → evC P call n ordT L c r h = some (e, r', h') := by
  intro c
  induction c with
  | skip =>
    intro bs r h e r' h' bs' cs hev hp
    simp only [evW, Option.some.injEq, Prod.mk.injEq] at hev
    obtain ⟨rfl, rfl, rfl, rfl, rfl⟩ := hev
    rfl
  | exit id =>
    intro bs r h e r' h' bs' cs hev hp
    simp only [evW, Option.some.injEq, Prod.mk.injEq] at hev
    obtain ⟨rfl, rfl, rfl, rfl, rfl⟩ := hev
    rfl
  | ret =>
    intro bs r h e r' h' bs' cs hev hp
    simp only [evW, Option.some.injEq, Prod.mk.injEq] at hev
    obtain ⟨rfl, rfl, rfl, rfl, rfl⟩ := hev
    rfl
  | label l =>
    intro bs r h e r' h' bs' cs hev hp
    simp only [evW, Option.some.injEq, Prod.mk.injEq] at hev
    obtain ⟨rfl, rfl, rfl, rfl, rfl⟩ := hev
    rfl
  | region id ops d =>
    intro bs r h e r' h' bs' cs hev hp
    simp only [evW] at hev
    simp only [evC]
    split at hev
    · next r1 h1 hx =>
      simp only [Option.some.injEq, Prod.mk.injEq] at hev
      obtain ⟨rfl, rfl, rfl, rfl, rfl⟩ := hev
      rw [hx]
    · cases hev
  | seq x y ihx ihy =>
    intro bs r h e r' h' bs' cs hev hp
    simp only [evW, thenW] at hev
    simp only [evC]
    split at hev
    · next r1 h1 b1 c1 hx =>
      split at hev
      · next e2 r2 h2 b2 c2 hy =>
        simp only [Option.some.injEq, Prod.mk.injEq] at hev
        obtain ⟨rfl, rfl, rfl, rfl, rfl⟩ := hev
        obtain ⟨p1, p2⟩ := pathOk_app hp
        rw [ihx _ _ _ _ _ _ _ _ hx p1]
        exact ihy _ _ _ _ _ _ _ _ hy p2
      · cases hev
    · next hx =>
      simp only [Option.some.injEq, Prod.mk.injEq] at hev
      obtain ⟨rfl, rfl, rfl, rfl, rfl⟩ := hev
      rw [ihx _ _ _ _ _ _ _ _ hx hp]
    · next hx =>
      simp only [Option.some.injEq, Prod.mk.injEq] at hev
      obtain ⟨rfl, rfl, rfl, rfl, rfl⟩ := hev
      rw [ihx _ _ _ _ _ _ _ _ hx hp]
    · cases hev
  | cond c x y ihx ihy =>
    intro bs r h e r' h' bs' cs hev hp
    simp only [evW] at hev
    simp only [evC]
    split at hev
    · split at hev
      · next e2 r2 h2 b2 c2 hx =>
        simp only [Option.some.injEq, Prod.mk.injEq] at hev
        obtain ⟨rfl, rfl, rfl, rfl, rfl⟩ := hev
        have h0 := hp (opA r c, true) (by simp)
        simp only at h0
        rw [h0]
        exact ihx _ _ _ _ _ _ _ _ hx fun p hp' => hp p (List.mem_cons_of_mem _ hp')
      · cases hev
    · split at hev
      · next e2 r2 h2 b2 c2 hx =>
        simp only [Option.some.injEq, Prod.mk.injEq] at hev
        obtain ⟨rfl, rfl, rfl, rfl, rfl⟩ := hev
        have h0 := hp (opA r c, false) (by simp)
        simp only at h0
        rw [h0]
        exact ihy _ _ _ _ _ _ _ _ hx fun p hp' => hp p (List.mem_cons_of_mem _ hp')
      · cases hev
    · cases hev
  | block id x ih =>
    intro bs r h e r' h' bs' cs hev hp
    simp only [evW] at hev
    simp only [evC]
    split at hev
    · next id' r1 h1 b1 c1 hx =>
      cases hb : Nat.beq id' id with
      | true =>
        rw [hb] at hev
        simp only [cond_true, Option.some.injEq, Prod.mk.injEq] at hev
        obtain ⟨rfl, rfl, rfl, rfl, rfl⟩ := hev
        rw [ih _ _ _ _ _ _ _ _ hx hp]
        simp only [hb, cond_true]
      | false =>
        rw [hb] at hev
        simp only [cond_false, Option.some.injEq, Prod.mk.injEq] at hev
        obtain ⟨rfl, rfl, rfl, rfl, rfl⟩ := hev
        rw [ih _ _ _ _ _ _ _ _ hx hp]
        simp only [hb, cond_false]
    · next hne =>
      rw [ih _ _ _ _ _ _ _ _ hev hp]
      cases e with
      | exit id' => exact absurd hev (hne id' r' h' bs' cs)
      | _ => rfl
  | loop x ih =>
    intro bs r h e r' h' bs' cs hev hp
    simp only [evW] at hev
    simp only [evC]
    exact loopW_ok (fun bs r h e r' h' bs' cs => ih bs r h e r' h' bs' cs) _ _ _ _ _ _ _ _ _ hev hp
  | _ => intro bs r h e r' h' bs' cs hev; simp [evW] at hev
/-- a function along a path -/
def callW (P : Program) (F : FT) (orc : CallF) (L k : Nat) (f : FuncId) (bs : List Bool) (args : List AV) (h : AH) : Option (AV × AH × List (AV × Bool)) :=
  match F.fn f with
    | none => none
    | some fn => match fn.body with
      | none => none
      | some c => bif Nat.ble args.length fn.ntmps then
          (match evW P (callN P F orc L k) fn.ntmps (F.ord f) L c bs (regs0 args 0 .e) h with
          | some (.ret, r, h', _, cs) => (match evRes P r h' fn.results.toList with | some vs => some (resOf vs, h', cs) | none => none)
          | some (.normal, r, h', _, cs) => (match evRes P r h' fn.results.toList with | some vs => some (resOf vs, h', cs) | none => none)
          | _ => none) else none
theorem callW_ok {F : FT} {orc : CallF} {k : Nat} {f : FuncId} {bs : List Bool} {args : List AV} {h h' : AH} {v : AV} {cs : List (AV × Bool)} (hev : callW P F orc L k f bs args h = some (v, h', cs)) (hp : pathOk cs) (ho : orc f args h = none) : callN P F orc L (k + 1) f args h = some (v, h') := by
  unfold callW at hev
  simp only [callN, ho]
  split at hev
  · cases hev
  · next fn hfn =>
    rw [hfn]
    simp only
    split at hev
    · cases hev
    · next c hc =>
      simp only [hc]
      cases hl : Nat.ble args.length fn.ntmps with
      | false => rw [hl] at hev; cases hev
      | true =>
        rw [hl] at hev
        simp only [cond_true] at hev ⊢
        split at hev
        · next r1 h1 b1 c1 hx =>
          split at hev
          · next vs hr =>
            simp only [Option.some.injEq, Prod.mk.injEq] at hev
            obtain ⟨rfl, rfl, rfl⟩ := hev
            rw [evW_ok _ _ _ _ _ _ _ _ _ hx hp]
            simp only [hr]
          · cases hev
        · next r1 h1 b1 c1 hx =>
          split at hev
          · next vs hr =>
            simp only [Option.some.injEq, Prod.mk.injEq] at hev
            obtain ⟨rfl, rfl, rfl⟩ := hev
            rw [evW_ok _ _ _ _ _ _ _ _ _ hx hp]
            simp only [hr]
          · cases hev
        · cases hev
end
end Go.RE
