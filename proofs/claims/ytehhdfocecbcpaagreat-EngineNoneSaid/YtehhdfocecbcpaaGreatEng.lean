/- Part of a proof: the tools that its last text leans on (Eng). -/
import Derived.Calls
import Derived.Tactics
import Derived.Below
import Derived.Deep.LoopGhost
import Derived.IntWalk
import Derived.OrdersHeld
import Derived.Maps.AppendAt
import Derived.Laws.StructEq
import Derived.KernelRfl
namespace Go.Eng
open Go Go.RowKit

abbrev Rg := Nat → Value
def upd (ρ : Rg) (d : Nat) (v : Value) : Rg := fun i => bif Nat.beq i d then v else ρ i
def acts (n : Nat) (ρ : Rg) : Act := ⟨Array.ofFn (n := n) fun i => ρ i, []⟩

theorem acts_put (n : Nat) (ρ : Rg) (d : Nat) (v : Value) : (acts n ρ).put (some d) v = acts n (upd ρ d v) := by
  simp only [acts, Act.put, Act.mk.injEq, and_true]
  apply Array.ext
  · simp
  · intro i h1 h2
    rw [Array.getElem_setIfInBounds (by simpa using h1)]
    simp only [Array.getElem_ofFn, upd]
    by_cases h : d = i
    · subst h; simp
    · have : Nat.beq i d = false := by
        apply Bool.eq_false_iff.2; intro hb; exact h (Nat.eq_of_beq_eq_true hb).symm
      simp [h, this]

theorem acts_getD (n : Nat) (ρ : Rg) (t : Nat) (h : t < n) : (acts n ρ).tmps.getD t undef = ρ t := by
  simp [acts, h]

/-- numbers of 64 bits, bytes -/
def u64 (a : UInt64) : Value := .int .u64 (a.toNat : Int)
def u8 (a : UInt8) : Value := .int .u8 (a.toNat : Int)
theorem u64_eq (a : UInt64) : u64 a = .int .u64 (a.toNat : Int) := by unfold u64; rfl
theorem u8_eq (a : UInt8) : u8 a = .int .u8 (a.toNat : Int) := by unfold u8; rfl
/-- a constant, numbers of 64 bits and bytes by their words -/
def cv : Value → Value
  | .int .u64 n => u64 (UInt64.ofNat n.toNat)
  | .int .u8 n => u8 (UInt8.ofNat n.toNat)
  | v => v
def cvOk : Value → Bool
  | .int .u64 n => decide (0 ≤ n) && decide (n < 18446744073709551616)
  | .int .u8 n => decide (0 ≤ n) && decide (n < 256)
  | _ => true
theorem cv_eq {v : Value} (h : cvOk v = true) : cv v = v := by
  unfold cv
  split
  · next n =>
    simp only [cvOk, Bool.and_eq_true, decide_eq_true_eq] at h
    rw [u64_eq, UInt64.toNat_ofNat']
    congr 1; omega
  · next n =>
    simp only [cvOk, Bool.and_eq_true, decide_eq_true_eq] at h
    rw [u8_eq, UInt8.toNat_ofNat']
    congr 1; omega
  · rfl
/-- operand's value -/
def ev (ρ : Rg) : Operand → Value
  | .tmp t => ρ t
  | .const v => cv v
  | .global g => .pointer (some ⟨g, 0, none⟩)
  | .func f => .func (.func f) #[] #[]

def inR (n : Nat) : Operand → Bool
  | .tmp t => Nat.blt t n
  | .const v => cvOk v
  | _ => true

theorem acts_eval {n : Nat} {ρ : Rg} {o : Operand} (h : inR n o = true) : (acts n ρ).eval o = ev ρ o := by
  cases o with
  | tmp t => exact acts_getD n ρ t (by simpa [inR, Nat.blt_eq] using h)
  | const v => exact (cv_eq h).symm
  | global g => rfl
  | func f => rfl

structure As where
  S : Nat → Prop
  φ : World → Prop
  loc : ∀ w w' : World, (∀ b, S b → w'.heap[b]? = w.heap[b]?) → φ w → φ w'

def cell (b : Nat) (t : TypeId) (C : List Value) : As :=
  ⟨(· = b), fun w => w.heap[b]? = some (.cells ⟨C⟩ t (0, 0)), fun _ _ h hw => (h b rfl).trans hw⟩

def Sat (w0 : World) (B : Nat) : List As → World → Prop
  | [], w => Below B w0 w ∧ B ≤ w.heap.size
  | A :: H, w => A.φ w ∧ (∀ b, A.S b → B ≤ b ∧ b < w.heap.size) ∧ (∀ A' ∈ H, ∀ b, A.S b → ¬ A'.S b) ∧ Sat w0 B H w

section
variable {w0 : World} {B : Nat} {H : List As} {w w' : World}
theorem Sat.base (h : Sat w0 B H w) : Below B w0 w ∧ B ≤ w.heap.size := by
  induction H with
  | nil => exact h
  | cons A H ih => exact ih h.2.2.2

theorem Sat.lt (h : Sat w0 B H w) : ∀ A ∈ H, ∀ b, A.S b → B ≤ b ∧ b < w.heap.size := by
  induction H with
  | nil => intro A hA; cases hA
  | cons A H ih =>
    intro A' hA b hb
    cases hA with
    | head => exact h.2.1 b hb
    | tail _ hA => exact ih h.2.2.2 A' hA b hb

theorem Sat.frame (h : Sat w0 B H w) (hb : Below B w w') (hf : ∀ A ∈ H, ∀ b, A.S b → w'.heap[b]? = w.heap[b]?) : Sat w0 B H w' := by
  induction H with
  | nil => exact ⟨h.1.trans hb, Nat.le_trans h.2 hb.size⟩
  | cons A H ih =>
    obtain ⟨h1, h2, h3, h4⟩ := h
    exact ⟨A.loc _ _ (hf A (.head _)) h1, fun b hb' => ⟨(h2 b hb').1, Nat.lt_of_lt_of_le (h2 b hb').2 hb.size⟩, h3, ih h4 (fun A' hA' => hf A' (.tail _ hA'))⟩

theorem Sat.below (h : Sat w0 B H w) (hb : Below w.heap.size w w') : Sat w0 B H w' :=
  h.frame (hb.mono h.base.2) fun A hA b hS => hb.block b (h.lt A hA b hS).2

theorem Sat.push (h : Sat w0 B H w) (t : TypeId) (C : List Value) : Sat w0 B (cell w.heap.size t C :: H) (w.alloc (.cells ⟨C⟩ t)) := by
  have hb : Below w.heap.size w (w.alloc (.cells ⟨C⟩ t)) := (Below.refl _ _).alloc (Nat.le_refl _) _
  have hs : (w.alloc (.cells ⟨C⟩ t)).heap.size = w.heap.size + 1 := by show (w.heap.push _).size = _; simp
  refine ⟨?_, ?_, ?_, h.below hb⟩
  · show (w.heap.push _)[w.heap.size]? = _; simp
  · rintro b rfl
    exact ⟨h.base.2, by omega⟩
  · rintro A' hA b rfl hS
    exact absurd (h.lt A' hA _ hS).2 (by omega)

theorem Sat.mid {H1 H2 : List As} {A : As} (h : Sat w0 B (H1 ++ A :: H2) w) : A.φ w ∧ (∀ A' ∈ H1 ++ H2, ∀ b, A.S b → ¬ A'.S b) ∧ (∀ b, A.S b → B ≤ b ∧ b < w.heap.size) := by
  induction H1 with
  | nil => exact ⟨h.1, h.2.2.1, h.2.1⟩
  | cons A1 H1 ih =>
    obtain ⟨h1, h2, h3, h4⟩ := h
    obtain ⟨g1, g2, g3⟩ := ih h4
    refine ⟨g1, ?_, g3⟩
    intro A' hA' b hb hS
    rcases List.mem_cons.1 hA' with rfl | hA'
    · exact h3 A (by simp) b hS hb
    · exact g2 A' hA' b hb hS

/-- one entry turned, all else as it was -/
theorem Sat.turn {H1 H2 : List As} {A A' : As} (h : Sat w0 B (H1 ++ A :: H2) w) (hb : Below B w w') (hA : A'.φ w') (hS : ∀ b, A'.S b → A.S b ∨ (w.heap.size ≤ b ∧ b < w'.heap.size))
    (hf : ∀ b, ¬ A.S b → b < w.heap.size → w'.heap[b]? = w.heap[b]?) : Sat w0 B (H1 ++ A' :: H2) w' := by
  have hnew : ∀ A1 ∈ H1 ++ A :: H2, ∀ b, A1.S b → ¬ w.heap.size ≤ b := fun A1 h1 b hb1 h2 => absurd (h.lt A1 h1 b hb1).2 (by omega)
  have hsz := hb.size
  have hB := h.base.2
  induction H1 with
  | nil =>
    obtain ⟨h1, h2, h3, h4⟩ := h
    refine ⟨hA, fun b hb' => ?_, fun A2 hA2 b hb' hS2 => ?_, h4.frame hb fun A2 hA2 b hS2 => hf b (fun hS1 => h3 A2 hA2 b hS1 hS2) (h4.lt A2 hA2 b hS2).2⟩
    · rcases hS b hb' with g | g
      · exact ⟨(h2 b g).1, Nat.lt_of_lt_of_le (h2 b g).2 hsz⟩
      · exact ⟨by omega, g.2⟩
    · rcases hS b hb' with g | g
      · exact h3 A2 hA2 b g hS2
      · exact hnew A2 (.tail _ hA2) b hS2 g.1
  | cons A1 H1 ih =>
    obtain ⟨h1, h2, h3, h4⟩ := h
    refine ⟨A1.loc _ _ (fun b hS1 => hf b (fun hS2 => h3 A (by simp) b hS1 hS2) (h2 b hS1).2) h1, fun b hb' => ⟨(h2 b hb').1, Nat.lt_of_lt_of_le (h2 b hb').2 hsz⟩, ?_, ih h4 (fun A2 h2 => hnew A2 (.tail _ h2))⟩
    intro A2 hA2 b hS1 hS2
    rcases List.mem_append.1 hA2 with hA2 | hA2
    · exact h3 A2 (List.mem_append.2 (.inl hA2)) b hS1 hS2
    · rcases List.mem_cons.1 hA2 with rfl | hA2
      · rcases hS b hS2 with g | g
        · exact h3 A (by simp) b hS1 g
        · exact hnew A1 (.head _) b hS1 g.1
      · exact h3 A2 (List.mem_append.2 (.inr (.tail _ hA2))) b hS1 hS2

end

/-- chunk b of type t with cells C is in H; k gives H with other cells -/
class InH (H : List As) (b : Nat) (t : outParam TypeId) (C : outParam (List Value)) (k : outParam (List Value → List As)) : Prop where
  out : ∃ H1 H2, H = H1 ++ cell b t C :: H2 ∧ ∀ C', k C' = H1 ++ cell b t C' :: H2

instance InH.head {H : List As} {b : Nat} {t : TypeId} {C : List Value} : InH (cell b t C :: H) b t C (fun C' => cell b t C' :: H) :=
  ⟨[], H, rfl, fun _ => rfl⟩

instance InH.tail {H : List As} {A : As} {b : Nat} {t : TypeId} {C : List Value} {k : List Value → List As} [i : InH H b t C k] : InH (A :: H) b t C (fun C' => A :: k C') :=
  ⟨let ⟨H1, H2, e, f⟩ := i.out; ⟨A :: H1, H2, by rw [e]; rfl, fun C' => by rw [f C']; rfl⟩⟩

theorem InH.get {H b t C k} [i : InH H b t C k] {w0 B w} (h : Sat w0 B H w) : w.heap[b]? = some (.cells ⟨C⟩ t (0, 0)) ∧ B ≤ b := by
  obtain ⟨H1, H2, rfl, _⟩ := i.out
  obtain ⟨g1, _, g3⟩ := h.mid
  exact ⟨g1, (g3 b rfl).1⟩

theorem InH.set {H b t C k} [i : InH H b t C k] {w0 B w w'} {C' : List Value} (h : Sat w0 B H w) (h1 : w'.heap[b]? = some (.cells ⟨C'⟩ t (0, 0)))
    (h2 : ∀ b', b' ≠ b → w'.heap[b']? = w.heap[b']?) (hb : Below b w w') : Sat w0 B (k C') w' := by
  have hB := (InH.get (i := i) h).2
  obtain ⟨H1, H2, rfl, e⟩ := i.out
  rw [e]
  exact h.turn (hb.mono hB) h1 (fun _ hS => .inl hS) fun b' hS _ => h2 b' hS
end Go.Eng

namespace Go.Eng
open Go Go.RowKit

/-- the fixed part of a walk: the program, how many temporaries, the world at the start, the first block of the call's own -/
structure Cx where
  P : Program
  n : Nat
  w0 : World
  B : Nat

abbrev Kt := Rg → List As → Prop

/-- one operation of a region, skipped where its guard says so -/
def wpO (P : Program) (ops : Array Oper) (Q : Exit → Act → World → Prop) (o : Oper) (K : Act → World → Prop) (a : Act) (w : World) : Prop :=
  if Region.wanted o (yielded ops a.tmps) then o.wp P a w K Q ∨ (o.asks P a w ∧ LetsOut Q) else K (a.put o.dst undef) w

def OpR (c : Cx) (ops : Array Oper) (Q : Exit → Act → World → Prop) (o : Oper) (ρ : Rg) (H : List As) (K : Kt) : Prop :=
  ∀ w (Kw : Act → World → Prop), Sat c.w0 c.B H w → (∀ ρ' H' w', K ρ' H' → Sat c.w0 c.B H' w' → Kw (acts c.n ρ') w') → wpO c.P ops Q o Kw (acts c.n ρ) w

/-- the rest of a region -/
def WL (c : Cx) (ops : Array Oper) (Q : Exit → Act → World → Prop) (l : List Oper) : Kt := fun ρ H =>
  ∀ w, Sat c.w0 c.B H w → wpList c.P ops Q l (acts c.n ρ) w

def WQ (c : Cx) (Q : Exit → Act → World → Prop) (e : Exit) : Kt := fun ρ H => ∀ w, Sat c.w0 c.B H w → Q e (acts c.n ρ) w
def WC (c : Cx) (Q : Exit → Act → World → Prop) (x : Code) : Kt := fun ρ H => ∀ w, Sat c.w0 c.B H w → x.wp c.P Q (acts c.n ρ) w

section
variable {c : Cx} {ops : Array Oper} {Q : Exit → Act → World → Prop} {ρ : Rg} {H : List As}
theorem WL.nil (h : WQ c Q .normal ρ H) : WL c ops Q [] ρ H := fun w hw => h w hw
theorem WL.cons {o : Oper} {l : List Oper} (h : OpR c ops Q o ρ H (WL c ops Q l)) : WL c ops Q (o :: l) ρ H := fun w hw => by
  unfold wpList
  have := h w (wpList c.P ops Q l) hw (fun ρ' H' w' hk hs => hk w' hs)
  unfold wpO at this
  exact this
theorem WC.region {id : Nat} {l : List Oper} (h : WL c l.toArray Q l ρ H) : WC c Q (.region id l.toArray false) ρ H := fun w hw => wp_region_lit (h w hw)

/-- continuations, innermost first -/
inductive Fr where
  | seq (y : Code)
  | blk (id : Nat)
  | lp (I : Act → World → Prop)
def stk (P : Program) (R : Exit → Act → World → Prop) : List Fr → Exit → Act → World → Prop
  | [] => R
  | .seq y :: s => Exit.then (y.wp P (stk P R s)) (stk P R s)
  | .blk id :: s => Exit.inBlock id (stk P R s)
  | .lp I :: s => Exit.then I (stk P R s)

/-- code x, then what the stack says, in the end R -/
def SC (c : Cx) (R : Exit → Act → World → Prop) (s : List Fr) (x : Code) : Kt := WC c (stk c.P R s) x
def SL (c : Cx) (R : Exit → Act → World → Prop) (s : List Fr) (ops : Array Oper) (l : List Oper) : Kt := WL c ops (stk c.P R s) l
def SN (c : Cx) (R : Exit → Act → World → Prop) (s : List Fr) (e : Exit) : Kt := WQ c (stk c.P R s) e
variable {R : Exit → Act → World → Prop} {s : List Fr}
theorem SC.seq {x y : Code} (h : SC c R (.seq y :: s) x ρ H) : SC c R s (x.seq y) ρ H := fun w hw => wp_seq (h w hw)
theorem SC.skip (h : SN c R s .normal ρ H) : SC c R s .skip ρ H := fun w hw => wp_skip (h w hw)
theorem SC.ret (h : SN c R s .ret ρ H) : SC c R s .ret ρ H := fun w hw => wp_ret (h w hw)
theorem SC.exit {id : Nat} (h : SN c R s (.exit id) ρ H) : SC c R s (.exit id) ρ H := fun w hw => wp_exit (h w hw)
theorem SC.block {id : Nat} {x : Code} (h : SC c R (.blk id :: s) x ρ H) : SC c R s (.block id x) ρ H := fun w hw => wp_block (h w hw)
theorem SC.region {id : Nat} {l : List Oper} (h : SL c R s l.toArray l ρ H) : SC c R s (.region id l.toArray false) ρ H := WC.region h
theorem SC.cond {o : Operand} {x y : Code} {t : Bool} (hr : inR c.n o = true) (ho : ev ρ o = .bool t) (h1 : t = true → SC c R s x ρ H) (h2 : t = false → SC c R s y ρ H) : SC c R s (.cond o x y) ρ H :=
  fun w hw => wp_cond_split ((acts_eval hr).trans ho) (fun h => h1 h w hw) (fun h => h2 h w hw)
theorem SC.condD {o : Operand} {x y : Code} {p : Prop} [Decidable p] (hr : inR c.n o = true) (ho : ev ρ o = .bool (decide p)) (h1 : p → SC c R s x ρ H) (h2 : ¬ p → SC c R s y ρ H) : SC c R s (.cond o x y) ρ H :=
  SC.cond hr ho (fun h => h1 (of_decide_eq_true h)) (fun h => h2 (of_decide_eq_false h))
theorem SL.nil {ops : Array Oper} (h : SN c R s .normal ρ H) : SL c R s ops [] ρ H := WL.nil h
theorem SL.cons {ops : Array Oper} {o : Oper} {l : List Oper} (h : OpR c ops (stk c.P R s) o ρ H (SL c R s ops l)) : SL c R s ops (o :: l) ρ H := WL.cons h
theorem SN.seqN {y : Code} (h : SC c R s y ρ H) : SN c R (.seq y :: s) .normal ρ H := fun w hw => h w hw
theorem SN.seqX {y : Code} {id : Nat} (h : SN c R s (.exit id) ρ H) : SN c R (.seq y :: s) (.exit id) ρ H := fun w hw => h w hw
theorem SN.seqR {y : Code} (h : SN c R s .ret ρ H) : SN c R (.seq y :: s) .ret ρ H := fun w hw => h w hw
theorem SN.lpX {I : Act → World → Prop} {id : Nat} (h : SN c R s (.exit id) ρ H) : SN c R (.lp I :: s) (.exit id) ρ H := fun w hw => h w hw
theorem SN.lpR {I : Act → World → Prop} (h : SN c R s .ret ρ H) : SN c R (.lp I :: s) .ret ρ H := fun w hw => h w hw
theorem SN.blkN {id : Nat} (h : SN c R s .normal ρ H) : SN c R (.blk id :: s) .normal ρ H := fun w hw => h w hw
theorem SN.blkR {id : Nat} (h : SN c R s .ret ρ H) : SN c R (.blk id :: s) .ret ρ H := fun w hw => h w hw
theorem SN.blkX {id : Nat} (h : SN c R s .normal ρ H) : SN c R (.blk id :: s) (.exit id) ρ H := fun w hw => by
  show Exit.inBlock id _ _ _ _
  simp only [Exit.inBlock, if_true]; exact h w hw
theorem SN.blkY {id id' : Nat} (hne : Nat.beq id' id = false) (h : SN c R s (.exit id') ρ H) : SN c R (.blk id :: s) (.exit id') ρ H := fun w hw => by
  show Exit.inBlock id _ _ _ _
  have : ¬ id' = id := fun e => by rw [e] at hne; simp at hne
  simp only [Exit.inBlock, this, if_false]; exact h w hw
end

section
variable {P : Program} {w : World} {ε : Operand → Value} {t : TypeId} {pos : String} {af : Array Edge} {dst : Option Tmp} {gd : Option (Nat × Bool)}
theorem run_move {x : Operand} {v : Value} (hx : ε x = v) : (execOp ε ⟨dst, .move x, t, pos, af, gd⟩).run P w = .ok (.value v) w := by
  simp [execOp, hx, go_sem]
theorem run_assign {x : Operand} {v : Value} (hx : ε x = v) : (execOp ε ⟨dst, .assign x, t, pos, af, gd⟩).run P w = .ok (.value v) w := by
  simp [execOp, hx, go_sem]
theorem run_extract {x : Operand} {vs : Array Value} {i : Nat} {v : Value} (hx : ε x = .tuple vs) (hv : vs[i]? = some v) : (execOp ε ⟨dst, .extract x i, t, pos, af, gd⟩).run P w = .ok (.value v) w := by
  simp [execOp, hx, Instr.extract, hv, go_sem]
theorem run_pick {x y z : Operand} {b : Bool} (hx : ε x = .bool b) : (execOp ε ⟨dst, .pick x y z, t, pos, af, gd⟩).run P w = .ok (.value (if b then ε y else ε z)) w := by
  simp [execOp, hx, asBool, go_sem]
theorem run_not {x : Operand} {b : Bool} {t' : TypeId} (hx : ε x = .bool b) : (execOp ε ⟨dst, .unOp .not t' x, t, pos, af, gd⟩).run P w = .ok (.value (.bool !b)) w := by
  simp [execOp, hx, Op.unary, go_sem]
theorem run_nilCheckP {x : Operand} {a : Addr} (hx : ε x = .pointer (some a)) : (execOp ε ⟨dst, .nilCheck x, t, pos, af, gd⟩).run P w = .ok (.value (.pointer (some a))) w := by
  simp [execOp, hx, go_sem]
theorem run_bin_int {op : BinOp} {t1 t2 : TypeId} {x y : Operand} {k : IntKind} {a b : Int} {r : Value} (hx : ε x = .int k a) (hy : ε y = .int k b)
    (hb : (binOp op t1 (.int k a) (.int k b)).run P w = .ok r w) : (execOp ε ⟨dst, .binOp op t1 x y t2, t, pos, af, gd⟩).run P w = .ok (.value r) w := by
  have hg : eqGuard op t1 x y (.int k a) (.int k b) = pure () := by
    unfold eqGuard
    cases op <;> rfl
  simp [execOp, hx, hy, hg, hb, go_sem]
def cmpOf : BinOp → Int → Int → Option Bool
  | .eql, a, b => some (decide (a = b))
  | .neq, a, b => some (!decide (a = b))
  | .lss, a, b => some (decide (a < b))
  | .leq, a, b => some (decide (a ≤ b))
  | .gtr, a, b => some (decide (b < a))
  | .geq, a, b => some (decide (b ≤ a))
  | _, _, _ => none
theorem run_cmp {op : BinOp} {x y : Operand} {k : IntKind} {a b : Int} {t1 t2 : TypeId} {r : Bool} (hx : ε x = .int k a) (hy : ε y = .int k b) (he : cmpOf op a b = some r) :
    (execOp ε ⟨dst, .binOp op t1 x y t2, t, pos, af, gd⟩).run P w = .ok (.value (.bool r)) w := by
  refine run_bin_int hx hy ?_
  cases op <;> simp only [cmpOf, Option.some.injEq, reduceCtorEq] at he <;> subst he <;> simp [binOp, Op.intCmp, go_sem]
  · by_cases h : a = b <;> simp [h]
  · by_cases h : a = b <;> simp [h]
def arOf (k : IntKind) : BinOp → Int → Int → Option Int
  | .add, a, b => some (k.wrap (a + b))
  | .sub, a, b => some (k.wrap (a - b))
  | .mul, a, b => some (k.wrap (a * b))
  | _, _, _ => none
theorem run_arith {op : BinOp} {x y : Operand} {k : IntKind} {a b r : Int} {t1 t2 : TypeId} (hx : ε x = .int k a) (hy : ε y = .int k b) (he : arOf k op a b = some r) :
    (execOp ε ⟨dst, .binOp op t1 x y t2, t, pos, af, gd⟩).run P w = .ok (.value (.int k r)) w := by
  refine run_bin_int hx hy ?_
  cases op <;> simp only [arOf, Option.some.injEq, reduceCtorEq] at he <;> subst he <;> simp [binOp, Op.intArith, go_sem]
end

section
variable {c : Cx} {ops : Array Oper} {Q : Exit → Act → World → Prop} {ρ : Rg} {H : List As} {K : Kt} {t : TypeId} {pos : String} {af : Array Edge}

/-- the operation yields v and leaves the world as it is -/
def Val (c : Cx) (ρ : Rg) (H : List As) (o : Oper) (v : Value) : Prop := ∀ w, Sat c.w0 c.B H w → (execOp (acts c.n ρ).eval o).run c.P w = .ok (.value v) w

theorem OpR.val {d : Tmp} {op : Op} {v : Value} (h : Val c ρ H ⟨some d, op, t, pos, af, none⟩ v) (k : K (upd ρ d v) H) : OpR c ops Q ⟨some d, op, t, pos, af, none⟩ ρ H K := fun w Kw hw hK => by
  simp only [wpO, Region.wanted, if_true]
  refine .inl ?_
  unfold Oper.wp
  rw [h w hw]
  simp only [Oper.upon, acts_put]
  exact hK _ _ _ k hw

variable {dst : Option Tmp} {gd : Option (Nat × Bool)}
theorem Val.move {x : Operand} {v : Value} (hr : inR c.n x = true) (hx : ev ρ x = v) : Val c ρ H ⟨dst, .move x, t, pos, af, gd⟩ v := fun _ _ => run_move ((acts_eval hr).trans hx)
theorem Val.assign {x : Operand} {v : Value} (hr : inR c.n x = true) (hx : ev ρ x = v) : Val c ρ H ⟨dst, .assign x, t, pos, af, gd⟩ v := fun _ _ => run_assign ((acts_eval hr).trans hx)
theorem Val.extract {x : Operand} {vs : Array Value} {i : Nat} {v : Value} (hr : inR c.n x = true) (hx : ev ρ x = .tuple vs) (hv : vs[i]? = some v) : Val c ρ H ⟨dst, .extract x i, t, pos, af, gd⟩ v :=
  fun _ _ => run_extract ((acts_eval hr).trans hx) hv
theorem Val.pick {x y z : Operand} {b : Bool} {u v r : Value} (hr : inR c.n x = true) (hr1 : inR c.n y = true) (hr2 : inR c.n z = true) (hx : ev ρ x = .bool b) (hu : ev ρ y = u) (hv : ev ρ z = v) (he : (if b then u else v) = r) :
    Val c ρ H ⟨dst, .pick x y z, t, pos, af, gd⟩ r := fun _ _ => by
  rw [run_pick ((acts_eval hr).trans hx), acts_eval hr1, acts_eval hr2, hu, hv, he]
theorem Val.not {x : Operand} {b : Bool} {t' : TypeId} (hr : inR c.n x = true) (hx : ev ρ x = .bool b) : Val c ρ H ⟨dst, .unOp .not t' x, t, pos, af, gd⟩ (.bool !b) := fun _ _ => run_not ((acts_eval hr).trans hx)
theorem Val.nilCheckP {x : Operand} {a : Addr} (hr : inR c.n x = true) (hx : ev ρ x = .pointer (some a)) : Val c ρ H ⟨dst, .nilCheck x, t, pos, af, gd⟩ (.pointer (some a)) := fun _ _ => run_nilCheckP ((acts_eval hr).trans hx)
theorem Val.add {x y : Operand} {k : IntKind} {a b : Int} {t1 t2 : TypeId} (hr : inR c.n x = true) (hr1 : inR c.n y = true) (hx : ev ρ x = .int k a) (hy : ev ρ y = .int k b) (he : k.wrap (a + b) = a + b) :
    Val c ρ H ⟨dst, .binOp .add t1 x y t2, t, pos, af, gd⟩ (.int k (a + b)) := fun _ _ => run_arith ((acts_eval hr).trans hx) ((acts_eval hr1).trans hy) (congrArg some he)
theorem Val.sub {x y : Operand} {k : IntKind} {a b : Int} {t1 t2 : TypeId} (hr : inR c.n x = true) (hr1 : inR c.n y = true) (hx : ev ρ x = .int k a) (hy : ev ρ y = .int k b) (he : k.wrap (a - b) = a - b) :
    Val c ρ H ⟨dst, .binOp .sub t1 x y t2, t, pos, af, gd⟩ (.int k (a - b)) := fun _ _ => run_arith ((acts_eval hr).trans hx) ((acts_eval hr1).trans hy) (congrArg some he)
theorem Val.mul {x y : Operand} {k : IntKind} {a b : Int} {t1 t2 : TypeId} (hr : inR c.n x = true) (hr1 : inR c.n y = true) (hx : ev ρ x = .int k a) (hy : ev ρ y = .int k b) (he : k.wrap (a * b) = a * b) :
    Val c ρ H ⟨dst, .binOp .mul t1 x y t2, t, pos, af, gd⟩ (.int k (a * b)) := fun _ _ => run_arith ((acts_eval hr).trans hx) ((acts_eval hr1).trans hy) (congrArg some he)
theorem Val.arith {op : BinOp} {x y : Operand} {k : IntKind} {a b r : Int} {t1 t2 : TypeId} (hr : inR c.n x = true) (hr1 : inR c.n y = true) (hx : ev ρ x = .int k a) (hy : ev ρ y = .int k b) (he : arOf k op a b = some r) :
    Val c ρ H ⟨dst, .binOp op t1 x y t2, t, pos, af, gd⟩ (.int k r) := fun _ _ => run_arith ((acts_eval hr).trans hx) ((acts_eval hr1).trans hy) he
theorem Val.cmp {op : BinOp} {x y : Operand} {k : IntKind} {a b : Int} {t1 t2 : TypeId} {r : Bool} (hr : inR c.n x = true) (hr1 : inR c.n y = true) (hx : ev ρ x = .int k a) (hy : ev ρ y = .int k b) (he : cmpOf op a b = some r) :
    Val c ρ H ⟨dst, .binOp op t1 x y t2, t, pos, af, gd⟩ (.bool r) := fun _ _ => run_cmp ((acts_eval hr).trans hx) ((acts_eval hr1).trans hy) he
end
end Go.Eng

namespace Go.Eng
open Go Go.RowKit

@[irreducible] def ptr (b e i : Nat) : Value := .pointer (some ⟨b, e + i, none⟩)
theorem ptr_eq (b e i : Nat) : ptr b e i = .pointer (some ⟨b, e + i, none⟩) := by unfold ptr; rfl
theorem add_mk (b o k : Nat) : (⟨b, o, none⟩ : Addr).add k = ⟨b, o + k, none⟩ := by
  unfold Addr.add; split
  · next h => subst h; rfl
  · rfl

/-- size of a type, and whether its values are aggregates -/
class TyS (P : Program) (t : TypeId) (n : outParam Nat) (agg : outParam Bool) : Prop where
  isAgg : ∀ w, (isAgg t).run P w = .ok agg w
  size : ∀ w, (sizeOf t).run P w = .ok n w
class TyZ (P : Program) (t : TypeId) (z : outParam Value) : Prop where
  zero : ∀ w, (zeroValue t).run P w = .ok z w
class FldO (P : Program) (s : TypeId) (f : Nat) (off : outParam Nat) : Prop where
  run : ∀ a w, (Instr.fieldAt s (.pointer (some a)) f).run P w = .ok (.pointer (some (a.add off))) w
theorem fld_of {P : Program} {s : TypeId} {fs : Array Field} {f : Nat} {x : Field} {n off : Nat} (h : ∀ w, (underlying s).run P w = .ok (.struct fs) w) (hf : fs[f]? = some x) (hs : ∀ w, (sizeOf x.type).run P w = .ok n w) (hn : n ≠ 0) (ho : x.offset = off) : FldO P s f off := ⟨fun a w => by
  subst ho
  unfold Instr.fieldAt
  rw [Sem.run_bind, h w]
  simp only [Result.andThen_ok, hf]
  rw [Sem.run_bind]
  show ((Sem.run P (pure a) w).andThen _) = _
  simp only [Sem.run_pure, Result.andThen_ok]
  rw [Sem.run_bind]
  unfold fieldPlace
  rw [Sem.run_bind, hs w]
  simp [hn, go_sem]⟩
class ElS (P : Program) (t : TypeId) (e : outParam TypeId) (sz : outParam Nat) : Prop where
  und : ∀ w, (underlying t).run P w = .ok (.slice e) w
  size : ∀ w, (sizeOf e).run P w = .ok sz w
class FnB (P : Program) (f : FuncId) : Prop where
  call : ∀ args w, (callFunc f args).run P w = .ok (.enter f args) w

theorem run_v {P : Program} {s : Sem Value} {w w' : World} {r : Value} (h : s.run P w = .ok r w') : (do pure (.value (← s)) : Sem Next).run P w = .ok (.value r) w' := by
  rw [Sem.run_bind, h]; rfl
theorem run_u {P : Program} {s : Sem Unit} {w w' : World} (h : s.run P w = .ok () w') : (do s; pure .skip : Sem Next).run P w = .ok .skip w' := by
  rw [Sem.run_bind, h]; rfl
/-! memory: loads -/
theorem run_loadCellsFrom {P : Program} {w : World} {b o : Nat} {C : List Value} {t : TypeId} {fr : Nat × Nat} (h : w.heap[b]? = some (.cells ⟨C⟩ t fr)) :
    ∀ (n i : Nat) (acc : Array Value), o + i + n ≤ C.length → (loadCellsFrom ⟨b, o, none⟩ i n acc).run P w = .ok (acc ++ ⟨(C.drop (o + i)).take n⟩) w := by
  intro n
  induction n with
  | zero => intro i acc _; simp [loadCellsFrom, go_sem]
  | succ n ih =>
    intro i acc hl
    have hc : w.cell? ⟨b, o + i, none⟩ = some (C[o + i]'(by omega)) := by
      simp [World.cell?, h]
    have e : (loadCellsFrom ⟨b, o, none⟩ i (n + 1) acc).run P w = (loadCellsFrom ⟨b, o, none⟩ (i + 1) n (acc.push (C[o + i]'(by omega)))).run P w := by
      rw [loadCellsFrom, add_mk]
      simp [go_sem, hc]
    rw [e, ih (i + 1) _ (by omega)]
    congr 1
    rw [List.drop_eq_getElem_cons (by omega : o + i < C.length)]
    apply Array.ext'
    simp [Nat.add_assoc]

theorem run_loadAgg {P : Program} {w : World} {b o n : Nat} {C : List Value} {t ty : TypeId} {fr : Nat × Nat} [T : TyS P t n true] (h : w.heap[b]? = some (.cells ⟨C⟩ ty fr)) (hl : o + n ≤ C.length) :
    (loadVar t ⟨b, o, none⟩).run P w = .ok (.agg ⟨(C.drop o).take n⟩) w := by
  unfold loadVar
  have := run_loadCellsFrom (P := P) (o := o) h n 0 #[] (by omega)
  simp [go_sem, T.isAgg, T.size, loadCells, this]

theorem run_load1 {P : Program} {w : World} {b o n : Nat} {t : TypeId} {v : Value} [T : TyS P t n false] (h : w.cell? ⟨b, o, none⟩ = some v) :
    (loadVar t ⟨b, o, none⟩).run P w = .ok v w := by
  unfold loadVar
  simp [go_sem, T.isAgg, h]

/-! memory: stores -/
/-- the value of one cell -/
def one1 : Value → Bool
  | .agg _ | .tuple _ => false
  | _ => true
theorem one1_ptr (b e i : Nat) : one1 (ptr b e i) = true := by rw [ptr_eq]; rfl
theorem cells_ptr (b e i : Nat) : (ptr b e i).cells = ⟨[ptr b e i]⟩ := by rw [ptr_eq]; rfl
/-- cells vs laid over C from i on -/
def setL : List Value → Nat → List Value → List Value
  | C, _, [] => C
  | C, i, v :: vs => setL (C.set i v) (i + 1) vs
theorem setL_length (vs : List Value) : ∀ C i, (setL C i vs).length = C.length := by
  induction vs with
  | nil => intro C i; rfl
  | cons v vs ih => intro C i; rw [setL, ih]; simp

theorem heap_setCell_at {w : World} {b o : Nat} {C : List Value} {t : TypeId} {fr : Nat × Nat} (v : Value) (h : w.heap[b]? = some (.cells ⟨C⟩ t fr)) :
    (w.setCell ⟨b, o, none⟩ v).heap[b]? = some (.cells ⟨C.set o v⟩ t fr) := by
  simp only [World.setCell, Array.getElem?_modify, if_true, h, Option.map_some, Option.isSome_none, Bool.false_eq_true, if_false]
  simp [Array.setIfInBounds]
  intro hn
  rw [List.set_eq_of_length_le hn]

theorem run_store1 {P : Program} {w : World} {a : Addr} {v u : Value} (ho : one1 v = true) (hc : w.cell? a = some u) (hf : w.frozen? a = false) : (store a v).run P w = .ok () (w.setCell a v) := by
  cases v <;> first | (simp [one1] at ho; done) | (unfold store; simp only [Sem.run, hc, hf]; rfl)
theorem run_storeCells {P : Program} {b o : Nat} {t : TypeId} : ∀ (vs : List Value) (i : Nat) (w : World) (C : List Value), w.heap[b]? = some (.cells ⟨C⟩ t (0, 0)) → o + i + vs.length ≤ C.length → vs.all one1 = true →
    ∃ w', (storeCells ⟨b, o, none⟩ vs i).run P w = .ok () w' ∧ w'.heap[b]? = some (.cells ⟨setL C (o + i) vs⟩ t (0, 0)) ∧ (∀ b', b' ≠ b → w'.heap[b']? = w.heap[b']?) ∧ Below b w w' := by
  intro vs
  induction vs with
  | nil => intro i w C h _ _; exact ⟨w, by simp [storeCells, go_sem], h, fun _ _ => rfl, Below.refl _ _⟩
  | cons v vs ih =>
    intro i w C h hl hone
    simp only [List.length_cons] at hl
    simp only [List.all_cons, Bool.and_eq_true] at hone
    have hc : w.cell? ⟨b, o + i, none⟩ = some (C[o + i]'(by omega)) := by simp [World.cell?, h]
    have hfz : w.frozen? ⟨b, o + i, none⟩ = false := by simp [World.frozen?, h]
    obtain ⟨w', h1, h2, h3, h4⟩ := ih (i + 1) (w.setCell ⟨b, o + i, none⟩ v) (C.set (o + i) v) (heap_setCell_at v h) (by simp; omega) hone.2
    refine ⟨w', ?_, by rw [setL]; exact h2, fun b' hb' => (h3 b' hb').trans (Below.heap_setCell _ _ _ _ hb'), (((Below.refl _ _).setCell (p := ⟨b, o + i, none⟩) (Nat.le_refl _) v).trans h4)⟩
    rw [storeCells, add_mk]
    simp [go_sem, run_store1 hone.1 hc hfz, h1]

section
variable {c : Cx} {ops : Array Oper} {Q : Exit → Act → World → Prop} {ρ : Rg} {H : List As} {K : Kt} {t : TypeId} {pos : String} {af : Array Edge}
variable {dst : Option Tmp} {gd : Option (Nat × Bool)}

theorem Val.nilCheck {x : Operand} {b e i : Nat} (hr : inR c.n x = true) (hx : ev ρ x = ptr b e i) : Val c ρ H ⟨dst, .nilCheck x, t, pos, af, gd⟩ (ptr b e i) := fun w hw => by
  rw [ptr_eq] at hx ⊢
  exact Val.nilCheckP hr hx w hw
theorem Val.field {x : Operand} {b e i off f : Nat} {s : TypeId} [F : FldO c.P s f off] (hr : inR c.n x = true) (hx : ev ρ x = ptr b e i) : Val c ρ H ⟨dst, .fieldAddr s x f, t, pos, af, gd⟩ (ptr b e (i + off)) := fun w _ => by
  have h := (acts_eval (n := c.n) (ρ := ρ) hr).trans hx
  rw [ptr_eq] at h ⊢
  generalize (acts c.n ρ).eval = ε at h ⊢
  have := F.run ⟨b, e + i, none⟩ w
  rw [add_mk, Nat.add_assoc] at this
  simp only [execOp, h]
  exact run_v this
theorem Val.load1 {x : Operand} {b i n : Nat} {ty ty' : TypeId} {C : List Value} {k : List Value → List As} {v : Value} [T : TyS c.P ty n false] [I : InH H b ty' C k] (hr : inR c.n x = true) (hx : ev ρ x = ptr b 0 i) (hv : C[i]? = some v) :
    Val c ρ H ⟨dst, .load ty x, t, pos, af, gd⟩ v := fun w hw => by
  have h := (acts_eval (n := c.n) (ρ := ρ) hr).trans hx
  rw [ptr_eq] at h
  generalize (acts c.n ρ).eval = ε at h ⊢
  have hb := (InH.get (i := I) hw).1
  have : w.cell? ⟨b, 0 + i, none⟩ = some v := by simp [World.cell?, hb, hv]
  simp only [execOp, h]
  exact run_v (run_load1 (T := T) this)
theorem Val.loadN {x : Operand} {b i n : Nat} {ty ty' : TypeId} {C : List Value} {k : List Value → List As} [T : TyS c.P ty n true] [I : InH H b ty' C k] (hr : inR c.n x = true) (hx : ev ρ x = ptr b 0 i) (hl : Nat.ble (i + n) C.length = true) :
    Val c ρ H ⟨dst, .load ty x, t, pos, af, gd⟩ (.agg ⟨(C.drop i).take n⟩) := fun w hw => by
  have h := (acts_eval (n := c.n) (ρ := ρ) hr).trans hx
  rw [ptr_eq, Nat.zero_add] at h
  generalize (acts c.n ρ).eval = ε at h ⊢
  have hb := (InH.get (i := I) hw).1
  simp only [execOp, h]
  exact run_v (run_loadAgg (T := T) hb (Nat.le_of_ble_eq_true hl))
theorem Val.len {x : Operand} {ty e : TypeId} {sz n cap : Nat} {a : Option Addr} {tys : Array TypeId} [T : ElS c.P ty e sz] (hr : inR c.n x = true) (hx : ev ρ x = .slice a n cap) (ht : tys = #[ty]) :
    Val c ρ H ⟨dst, .call ⟨.builtin .len, #[x], tys⟩, t, pos, af, gd⟩ (.int .i64 n) := fun w _ => by
  have h := (acts_eval (n := c.n) (ρ := ρ) hr).trans hx
  subst ht
  generalize (acts c.n ρ).eval = ε at h ⊢
  simp only [execOp, resolve]
  simp [h, invoke, builtin, go_sem]
  simp [Builtin.len_, go_sem, T.und, goInt]

theorem OpR.box {d : Tmp} {x : Operand} {v : Value} {C : List Value} {ty : TypeId} (hr : inR c.n x = true) (hx : ev ρ x = v) (hC : v.cells = ⟨C⟩) (k : ∀ b, K (upd ρ d (ptr b 0 0)) (cell b ty C :: H)) :
    OpR c ops Q ⟨some d, .box ty x, t, pos, af, none⟩ ρ H K := fun w Kw hw hK => by
  simp only [wpO, Region.wanted, if_true]
  refine .inl ?_
  unfold Oper.wp
  have h := (acts_eval (n := c.n) (ρ := ρ) hr).trans hx
  have hrun : (execOp (acts c.n ρ).eval ⟨some d, .box ty x, t, pos, af, none⟩).run c.P w = .ok (.value (ptr w.heap.size 0 0)) (w.alloc (.cells ⟨C⟩ ty)) := by
    rw [ptr_eq]
    generalize (acts c.n ρ).eval = ε at h ⊢
    simp only [execOp, h]
    refine run_v ?_
    unfold Instr.box newVar newRow
    rw [hC]
    simp [go_sem]
  rw [hrun]
  simp only [Oper.upon, acts_put]
  exact hK _ _ _ (k w.heap.size) (hw.push ty C)
theorem OpR.alloc {d : Tmp} {z : Value} {C : List Value} {ty : TypeId} [Z : TyZ c.P ty z] (hC : z.cells = ⟨C⟩) (k : ∀ b, K (upd ρ d (ptr b 0 0)) (cell b ty C :: H)) :
    OpR c ops Q ⟨some d, .alloc ty, t, pos, af, none⟩ ρ H K := fun w Kw hw hK => by
  simp only [wpO, Region.wanted, if_true]
  refine .inl ?_
  unfold Oper.wp
  have hrun : (execOp (acts c.n ρ).eval ⟨some d, .alloc ty, t, pos, af, none⟩).run c.P w = .ok (.value (ptr w.heap.size 0 0)) (w.alloc (.cells ⟨C⟩ ty)) := by
    rw [ptr_eq]
    simp only [execOp]
    refine run_v ?_
    unfold Instr.alloc
    rw [Sem.run_bind, Z.zero]
    show ((do pure (.pointer (some (← newVar ty z))) : Sem Value).run c.P w) = _
    unfold newVar newRow
    rw [hC]
    simp [go_sem]
  rw [hrun]
  simp only [Oper.upon, acts_put]
  exact hK _ _ _ (k w.heap.size) (hw.push ty C)

theorem OpR.storeL {x y : Operand} {b i n : Nat} {g : Bool} {ty ty' : TypeId} {C vs : List Value} {k : List Value → List As} {v : Value} [T : TyS c.P ty n g] [I : InH H b ty' C k] (hr : inR c.n x = true) (hr1 : inR c.n y = true) (hx : ev ρ x = ptr b 0 i)
    (hv : ev ρ y = v) (hc : v.cells = ⟨vs⟩) (hn : Nat.beq vs.length n = true) (hl : Nat.ble (i + n) C.length = true) (ho : vs.all one1 = true) (kk : K ρ (k (setL C i vs))) :
    OpR c ops Q ⟨none, .store ty x y, t, pos, af, none⟩ ρ H K := fun w Kw hw hK => by
  simp only [wpO, Region.wanted, if_true]
  refine .inl ?_
  unfold Oper.wp
  have h := (acts_eval (n := c.n) (ρ := ρ) hr).trans hx
  have h1 := (acts_eval (n := c.n) (ρ := ρ) hr1).trans hv
  rw [ptr_eq, Nat.zero_add] at h
  have hb := (InH.get (i := I) hw).1
  have hn' := Nat.eq_of_beq_eq_true hn
  obtain ⟨w', s1, s2, s3, s4⟩ := run_storeCells (P := c.P) (b := b) (o := i) (t := ty') vs 0 w C hb (by have := Nat.le_of_ble_eq_true hl; omega) ho
  have hrun : (execOp (acts c.n ρ).eval ⟨none, .store ty x y, t, pos, af, none⟩).run c.P w = .ok .skip w' := by
    generalize (acts c.n ρ).eval = ε at h h1 ⊢
    simp only [execOp, h, h1]
    refine run_u ?_
    show (storeVar ty ⟨b, i, none⟩ v).run c.P w = _
    unfold storeVar
    rw [hc]
    simp only [List.size_toArray, hn']
    rw [Sem.run_bind, T.size]
    simp [go_sem, s1]
  rw [hrun]
  simp only [Oper.upon]
  exact hK _ _ _ kk (InH.set (i := I) hw (by simpa using s2) s3 s4)
theorem OpR.store1 {x y : Operand} {b i : Nat} {ty ty' : TypeId} {C : List Value} {k : List Value → List As} {v : Value} [T : TyS c.P ty 1 false] [I : InH H b ty' C k] (hr : inR c.n x = true) (hr1 : inR c.n y = true) (hx : ev ρ x = ptr b 0 i)
    (hv : ev ρ y = v) (hl : Nat.ble (i + 1) C.length = true) (ho : one1 v = true) (kk : K ρ (k (C.set i v))) :
    OpR c ops Q ⟨none, .store ty x y, t, pos, af, none⟩ ρ H K :=
  OpR.storeL (T := T) (vs := [v]) hr hr1 hx hv (by cases v <;> first | rfl | (simp [one1] at ho)) rfl hl (by simp [ho]) kk

/-- f, called with args: it returns r, and nothing that was there has turned -/
def Pure (P : Program) (f : FuncId) (args : Array Value) (r : Value) (w : World) : Prop :=
  Calls P f args w fun e w' => e = .returned r ∧ Below w.heap.size w w'

def argsOf (ρ : Rg) : List Operand → List Value
  | [] => []
  | o :: l => ev ρ o :: argsOf ρ l
def inRs (n : Nat) : List Operand → Bool
  | [] => true
  | o :: l => inR n o && inRs n l
theorem args_eval {n : Nat} {ρ : Rg} : ∀ {l : List Operand}, inRs n l = true → l.map (acts n ρ).eval = argsOf ρ l
  | [], _ => rfl
  | o :: l, h => by
    simp only [inRs, Bool.and_eq_true] at h
    simp only [List.map_cons, argsOf, acts_eval h.1, args_eval h.2]

theorem OpR.call {d : Tmp} {f : FuncId} {l : List Operand} {vs : List Value} {tys : Array TypeId} {r : Value} [F : FnB c.P f] (hr : inRs c.n l = true) (hv : argsOf ρ l = vs)
    (hc : ∀ w, Sat c.w0 c.B H w → Pure c.P f vs.toArray r w) (k : K (upd ρ d r) H) :
    OpR c ops Q ⟨some d, .call ⟨.value (.func f), l.toArray, tys⟩, t, pos, af, none⟩ ρ H K := fun w Kw hw hK => by
  simp only [wpO, Region.wanted, if_true]
  refine .inl ?_
  unfold Oper.wp
  have h := (args_eval (ρ := ρ) hr).trans hv
  have hrun : (execOp (acts c.n ρ).eval ⟨some d, .call ⟨.value (.func f), l.toArray, tys⟩, t, pos, af, none⟩).run c.P w = .ok (.enter f vs.toArray) w := by
    have he : (acts c.n ρ).eval (.func f) = .func (.func f) #[] #[] := rfl
    generalize (acts c.n ρ).eval = ε at h he ⊢
    simp [execOp, resolve, he, Deferred.ofValue, invoke, h, go_sem, F.call]
  rw [hrun]
  show Calls _ _ _ _ _
  refine (hc w hw).mono ?_
  rintro e w' ⟨rfl, hb⟩
  show Kw _ _
  rw [acts_put]
  exact hK _ _ _ k (hw.below hb)

/-! entering and leaving -/
def rg0 (args : List Value) : Rg := fun i => args.getD i undef
theorem acts_rg0 (args : List Value) (n : Nat) (h : args.length ≤ n) : acts n (rg0 args) = { tmps := args.toArray ++ Array.replicate (n - args.toArray.size) undef, defers := [] } := by
  simp only [acts, Act.mk.injEq, and_true]
  apply Array.ext
  · simp; omega
  · intro i h1 h2
    simp only [Array.getElem_ofFn, rg0]
    simp at h1
    by_cases hi : i < args.length
    · rw [Array.getElem_append_left (by simpa using hi)]
      simp [hi]
    · rw [Array.getElem_append_right (by simp; omega)]
      simp [Nat.le_of_not_lt hi]

theorem enter {P : Program} {f : FuncId} {fn : Func} {x : Code} {args : List Value} {w : World} {R : Ending → World → Prop} (hf : P.funcs[f]? = some fn) (hb : fn.body = some x) (hn : Nat.ble args.length fn.ntmps = true)
    (h : SC ⟨P, fn.ntmps, w, w.heap.size⟩ (bodyPost P fn R) [] x (rg0 args) []) : Calls P f args.toArray w R := by
  refine calls_of_wp hf hb ?_
  rw [← acts_rg0 args fn.ntmps (Nat.le_of_ble_eq_true hn)]
  exact h w ⟨Below.refl _ _, Nat.le_refl _⟩

theorem SN.ret1 {fn : Func} {R : Ending → World → Prop} {t : Tmp} {v : Value} (hres : fn.results = #[.tmp t]) (hr : Nat.blt t c.n = true) (hv : ρ t = v) (h : ∀ w, Sat c.w0 c.B H w → R (.returned v) w) : SN c (bodyPost c.P fn R) [] .ret ρ H := fun w hw => by
  refine ⟨rfl, v, ?_, h w hw⟩
  rw [results_tmp hres, acts_getD _ _ _ (by simpa [Nat.blt_eq] using hr), hv]
theorem SN.ret2 {fn : Func} {R : Ending → World → Prop} {t t' : Tmp} {v v' : Value} (hres : fn.results = #[.tmp t, .tmp t']) (hr : Nat.blt t c.n = true) (hr' : Nat.blt t' c.n = true) (hv : ρ t = v) (hv' : ρ t' = v') (h : ∀ w, Sat c.w0 c.B H w → R (.returned (.tuple #[v, v'])) w) : SN c (bodyPost c.P fn R) [] .ret ρ H := fun w hw => by
  refine ⟨rfl, _, ?_, h w hw⟩
  rw [results_tmp2 hres, acts_getD _ _ _ (by simpa [Nat.blt_eq] using hr), acts_getD _ _ _ (by simpa [Nat.blt_eq] using hr'), hv, hv']
theorem SN.norm {fn : Func} {R : Ending → World → Prop} (h : SN c (bodyPost c.P fn R) [] .ret ρ H) : SN c (bodyPost c.P fn R) [] .normal ρ H := h
end
end Go.Eng

namespace Go.Eng
open Go Go.RowKit

/-! guarded operations -/
/-- v where b is true -/
def gv (b : Bool) (v : Value) : Value := bif b then v else undef

section
variable {c : Cx} {ops : Array Oper} {Q : Exit → Act → World → Prop} {ρ : Rg} {H : List As} {K : Kt} {t : TypeId} {pos : String} {af : Array Edge}
variable {dst : Option Tmp}

/-- register r holds what decides the guard 'want' -/
inductive GdOf (v : Value) (want : Bool) : Bool → Prop
  | one {b : Bool} (h : v = .bool b) : GdOf v want (b == want)
  | two {g b : Bool} (h : v = gv g (.bool b)) : GdOf v want (g && (b == want))

theorem GdOf.yields {v : Value} {want G : Bool} (h : GdOf v want G) : ((match (some v : Option Value) with | some (.bool b) => some b | _ => none) == some want) = G := by
  cases h with
  | one h => subst h; simp
  | @two g b h => subst h; cases g <;> simp [gv, undef]

theorem wanted_of {gi gd : Nat} {want G : Bool} {op : Op} (hd : (ops[gi]?).bind (·.dst) = some gd) (hn : Nat.blt gd c.n = true) (hG : GdOf (ρ gd) want G) :
    Region.wanted ⟨dst, op, t, pos, af, some (gi, want)⟩ (yielded ops (acts c.n ρ).tmps) = G := by
  simp only [Region.wanted, yielded, hd, Option.bind_some]
  have hlt : gd < c.n := by simpa [Nat.blt_eq] using hn
  have : (acts c.n ρ).tmps[gd]? = some (ρ gd) := by simp [acts, hlt]
  rw [this]
  exact hG.yields

theorem OpR.valG {d : Tmp} {op : Op} {v : Value} {gi gd : Nat} {want G : Bool} (hd : (ops[gi]?).bind (·.dst) = some gd) (hn : Nat.blt gd c.n = true) (hG : GdOf (ρ gd) want G)
    (h : G = true → Val c ρ H ⟨some d, op, t, pos, af, some (gi, want)⟩ v) (k : K (upd ρ d (gv G v)) H) : OpR c ops Q ⟨some d, op, t, pos, af, some (gi, want)⟩ ρ H K := fun w Kw hw hK => by
  simp only [wpO, wanted_of hd hn hG]
  cases G with
  | true =>
    simp only [if_true]
    refine .inl ?_
    unfold Oper.wp
    rw [h rfl w hw]
    simp only [Oper.upon, acts_put]
    exact hK _ _ _ k hw
  | false =>
    simp only [Bool.false_eq_true, if_false, acts_put]
    exact hK _ _ _ k hw

theorem Val.and {x y : Operand} {b b' : Bool} {gd : Option (Nat × Bool)} (hr : inR c.n x = true) (hr1 : inR c.n y = true) (hx : ev ρ x = .bool b) (hy : ev ρ y = gv (b == true) (.bool b')) :
    Val c ρ H ⟨dst, .pick x y (.const (.bool false)), t, pos, af, gd⟩ (.bool (b && b')) := Val.pick hr hr1 rfl hx hy rfl (by cases b <;> simp [gv, ev, cv])
theorem Val.or {x y : Operand} {b b' : Bool} {gd : Option (Nat × Bool)} (hr : inR c.n x = true) (hr1 : inR c.n y = true) (hx : ev ρ x = .bool b) (hy : ev ρ y = gv (b == false) (.bool b')) :
    Val c ρ H ⟨dst, .pick x (.const (.bool true)) y, t, pos, af, gd⟩ (.bool (b || b')) := Val.pick hr rfl hr1 hx rfl hy (by cases b <;> simp [gv, ev, cv])
theorem Val.andG {x y : Operand} {b b' g : Bool} {gd : Option (Nat × Bool)} (hr : inR c.n x = true) (hr1 : inR c.n y = true) (hg : g = true) (hx : ev ρ x = .bool b) (hy : ev ρ y = gv (g && (b == true)) (.bool b')) :
    Val c ρ H ⟨dst, .pick x y (.const (.bool false)), t, pos, af, gd⟩ (.bool (b && b')) := Val.pick hr hr1 rfl hx hy rfl (by subst hg; cases b <;> simp [gv, ev, cv])
theorem Val.orG {x y : Operand} {b b' g : Bool} {gd : Option (Nat × Bool)} (hr : inR c.n x = true) (hr1 : inR c.n y = true) (hg : g = true) (hx : ev ρ x = .bool b) (hy : ev ρ y = gv (g && (b == false)) (.bool b')) :
    Val c ρ H ⟨dst, .pick x (.const (.bool true)) y, t, pos, af, gd⟩ (.bool (b || b')) := Val.pick hr rfl hr1 hx rfl hy (by subst hg; cases b <;> simp [gv, ev, cv])

theorem OpR.callG {d : Tmp} {f : FuncId} {l : List Operand} {vs : List Value} {tys : Array TypeId} {r : Value} [F : FnB c.P f] {gi gd : Nat} {want G : Bool} (hd : (ops[gi]?).bind (·.dst) = some gd) (hn : Nat.blt gd c.n = true) (hG : GdOf (ρ gd) want G)
    (hr : inRs c.n l = true) (hv : G = true → argsOf ρ l = vs)
    (hc : G = true → ∀ w, Sat c.w0 c.B H w → Pure c.P f vs.toArray r w) (k : K (upd ρ d (gv G r)) H) :
    OpR c ops Q ⟨some d, .call ⟨.value (.func f), l.toArray, tys⟩, t, pos, af, some (gi, want)⟩ ρ H K := fun w Kw hw hK => by
  simp only [wpO, wanted_of hd hn hG]
  cases G with
  | true => 
    have := OpR.call (c := c) (ops := ops) (Q := Q) (ρ := ρ) (H := H) (K := K) (t := t) (pos := pos) (af := af) (d := d) (tys := tys) hr (hv rfl) (hc rfl) k w Kw hw hK
    exact this
  | false =>
    simp only [Bool.false_eq_true, if_false, acts_put]
    exact hK _ _ _ k hw
end

/-! loops -/
def hav (D : Nat → Bool) (j ρ : Rg) : Rg := fun i => bif D i then j i else ρ i
def upds : List (Nat × Value) → Rg → Rg
  | [], ρ => ρ
  | (d, v) :: l, ρ => upd (upds l ρ) d v
def RegOK (ρ : Rg) : List (Nat × Value) → Prop
  | [] => True
  | (d, v) :: l => ρ d = v ∧ RegOK ρ l
/-- slots from lo to hi, and those of l -/
def dr (lo hi : Nat) (l : List Nat) : Nat → Bool := fun i => (Nat.ble lo i && Nat.blt i hi) || l.any (Nat.beq i)
/-- the slots of some ranges -/
def dl (l : List (Nat × Nat)) : Nat → Bool := fun i => l.any fun p => Nat.ble p.1 i && Nat.blt i p.2
def Chn (D : Nat → Bool) (ρ ρ' : Rg) : Prop := ∀ i, D i = false → ρ' i = ρ i
theorem Chn.refl {D ρ} : Chn D ρ ρ := fun _ _ => rfl
theorem Chn.hav {D j ρ} : Chn D ρ (hav D j ρ) := fun i hi => by simp [Eng.hav, hi]
theorem Chn.upd {D : Nat → Bool} {ρ ρ' d v} (hd : D d = true) (h : Chn D ρ ρ') : Chn D ρ (upd ρ' d v) := fun i hi => by
  have : Nat.beq i d = false := by
    apply Bool.eq_false_iff.2; intro hb; rw [Nat.eq_of_beq_eq_true hb, hd] at hi; cases hi
  simp only [Eng.upd, this, cond_false]; exact h i hi
def keysIn (D : Nat → Bool) : List (Nat × Value) → Bool
  | [] => true
  | (d, _) :: l => D d && keysIn D l
theorem Chn.upds {D : Nat → Bool} {ρ ρ'} (h : Chn D ρ ρ') : ∀ (l : List (Nat × Value)), keysIn D l = true → Chn D ρ (upds l ρ')
  | [], _ => h
  | (d, v) :: l, hk => by
    simp only [keysIn, Bool.and_eq_true] at hk
    exact Chn.upd hk.1 (Chn.upds h l hk.2)
theorem upds_of_ok {D : Nat → Bool} {ρ ρ' : Rg} (hc : Chn D ρ ρ') : ∀ (l : List (Nat × Value)), RegOK ρ' l → Eng.upds l (Eng.hav D ρ' ρ) = ρ'
  | [], _ => by
    funext i
    simp only [Eng.upds, Eng.hav]
    cases h : D i
    · exact (hc i h).symm
    · rfl
  | (d, v) :: l, h => by
    simp only [Eng.upds, upds_of_ok hc l h.2]
    funext i
    simp only [Eng.upd]
    cases hb : Nat.beq i d
    · rfl
    · rw [Nat.eq_of_beq_eq_true hb, h.1]; rfl

/-- what a round hands on: the registers and the heap as some x of the loop's says, its number below m -/
def lpI (c : Cx) (D : Nat → Bool) (ρ : Rg) {α : Type} (regs : α → List (Nat × Value)) (Hs : α → List As) (φ : α → Prop) (μ : α → Nat) (m : Nat) (a : Act) (w : World) : Prop :=
  ∃ x j, φ x ∧ μ x < m ∧ a = acts c.n (upds (regs x) (hav D j ρ)) ∧ Sat c.w0 c.B (Hs x) w

section
variable {c : Cx} {R : Exit → Act → World → Prop} {s : List Fr} {ρ : Rg} {H : List As} {α : Type} {regs : α → List (Nat × Value)} {Hs : α → List As} {φ : α → Prop} {μ : α → Nat} {D : Nat → Bool}
theorem SC.loop {x : Code} (D : Nat → Bool) (regs : α → List (Nat × Value)) (Hs : α → List As) (φ : α → Prop) (μ : α → Nat) (a0 : α)
    (h0 : φ a0) (hH : ∀ w, Sat c.w0 c.B H w → Sat c.w0 c.B (Hs a0) w) (hr : RegOK ρ (regs a0))
    (round : ∀ a j, φ a → SC c R (.lp (lpI c D ρ regs Hs φ μ (μ a)) :: s) x (upds (regs a) (hav D j ρ)) (Hs a)) : SC c R s (.loop x) ρ H := fun w hw => by
  refine wp_loop_ghost (fun m a w => ∃ x j, φ x ∧ μ x = m ∧ a = acts c.n (upds (regs x) (hav D j ρ)) ∧ Sat c.w0 c.B (Hs x) w) (μ a0)
    ⟨a0, ρ, h0, rfl, by rw [upds_of_ok Chn.refl _ hr], hH w hw⟩ ?_
  rintro m a w ⟨x, j, hφ, rfl, rfl, hs⟩
  refine wp_mono (round x j hφ w hs) ?_
  intro e a' w' hq
  cases e <;> first | exact hq | skip
  obtain ⟨x', j', h1, h2, h3, h4⟩ := hq
  exact ⟨μ x', h2, x', j', h1, rfl, h3, h4⟩
theorem SN.lpN {ρ' : Rg} {m : Nat} (x' : α) (hφ : φ x') (hμ : μ x' < m) (hH : ∀ w, Sat c.w0 c.B H w → Sat c.w0 c.B (Hs x') w) (hr : RegOK ρ' (regs x')) (hc : Chn D ρ ρ') :
    SN c R (.lp (lpI c D ρ regs Hs φ μ m) :: s) .normal ρ' H := fun w hw =>
  ⟨x', ρ', hφ, hμ, by rw [upds_of_ok hc _ hr], hH w hw⟩

/-! reading what lies below B -/
/-- the cells of block b from e on are C, below B -/
class BRow (w0 : World) (B : Nat) (b e : Nat) (C : outParam (List Value)) : Prop where
  lt : C ≠ [] → b < B
  cell : ∀ i v, C[i]? = some v → w0.cell? ⟨b, e + i, none⟩ = some v

variable {t : TypeId} {pos : String} {af : Array Edge} {dst : Option Tmp} {gd : Option (Nat × Bool)}
theorem BRow.at_ {w0 : World} {B b e : Nat} {C : List Value} [h : BRow w0 B b e C] {H : List As} {w : World} (hs : Sat w0 B H w) {i : Nat} {v : Value} (hv : C[i]? = some v) : w.cell? ⟨b, e + i, none⟩ = some v := by
  have hb : b < B := h.lt (by rintro rfl; simp at hv)
  rw [← h.cell i v hv]
  exact hs.base.1.cell hb
theorem Val.loadB1 {x : Operand} {b e i n : Nat} {ty : TypeId} {C : List Value} {v : Value} [T : TyS c.P ty n false] [I : BRow c.w0 c.B b e C] (hr : inR c.n x = true) (hx : ev ρ x = ptr b e i) (hv : C[i]? = some v) :
    Val c ρ H ⟨dst, .load ty x, t, pos, af, gd⟩ v := fun w hw => by
  have h := (acts_eval (n := c.n) (ρ := ρ) hr).trans hx
  rw [ptr_eq] at h
  generalize (acts c.n ρ).eval = ε at h ⊢
  have := BRow.at_ (h := I) hw hv
  simp only [execOp, h]
  exact run_v (run_load1 (T := T) this)
theorem run_loadCells_cells {P : Program} {w : World} {b o : Nat} {C : List Value} (h : ∀ i v, C[i]? = some v → w.cell? ⟨b, o + i, none⟩ = some v) :
    ∀ (n i : Nat) (acc : Array Value), i + n ≤ C.length → (loadCellsFrom ⟨b, o, none⟩ i n acc).run P w = .ok (acc ++ ⟨(C.drop i).take n⟩) w := by
  intro n
  induction n with
  | zero => intro i acc _; simp [loadCellsFrom, go_sem]
  | succ n ih =>
    intro i acc hl
    have hc : w.cell? ⟨b, o + i, none⟩ = some (C[i]'(by omega)) := h i _ (List.getElem?_eq_getElem (by omega))
    have e : (loadCellsFrom ⟨b, o, none⟩ i (n + 1) acc).run P w = (loadCellsFrom ⟨b, o, none⟩ (i + 1) n (acc.push (C[i]'(by omega)))).run P w := by
      rw [loadCellsFrom, add_mk]
      simp [go_sem, hc]
    rw [e, ih (i + 1) _ (by omega)]
    congr 1
    have hd := List.drop_eq_getElem_cons (l := C) (i := i) (by omega)
    rw [hd, List.take_succ_cons]
    apply Array.ext'
    simp
theorem Val.loadBN {x : Operand} {b e i n : Nat} {ty : TypeId} {C : List Value} [T : TyS c.P ty n true] [I : BRow c.w0 c.B b e C] (hr : inR c.n x = true) (hx : ev ρ x = ptr b e i) (hl : Nat.ble (i + n) C.length = true) :
    Val c ρ H ⟨dst, .load ty x, t, pos, af, gd⟩ (.agg ⟨(C.drop i).take n⟩) := fun w hw => by
  have h := (acts_eval (n := c.n) (ρ := ρ) hr).trans hx
  rw [ptr_eq] at h
  generalize (acts c.n ρ).eval = ε at h ⊢
  have hl' := Nat.le_of_ble_eq_true hl
  have hc : ∀ j v, (C.drop i)[j]? = some v → w.cell? ⟨b, (e + i) + j, none⟩ = some v := fun j v hj => by
    rw [Nat.add_assoc]
    exact BRow.at_ (h := I) hw (by simpa using hj)
  simp only [execOp, h]
  refine run_v ?_
  show (loadVar ty ⟨b, e + i, none⟩).run c.P w = _
  unfold loadVar
  have := run_loadCells_cells (P := c.P) hc n 0 #[] (by simp; omega)
  simp [go_sem, T.isAgg, T.size, loadCells, this]
theorem Val.idx {x y : Operand} {ty e : TypeId} {sz n cap b o k : Nat} [E : ElS c.P ty e sz] (hr : inR c.n x = true) (hr1 : inR c.n y = true) (hx : ev ρ x = .slice (some ⟨b, o, none⟩) n cap) (hy : ev ρ y = .int .i64 (k : Int)) (hk : k < n) :
    Val c ρ H ⟨dst, .indexAddr ty x y, t, pos, af, gd⟩ (ptr b (o + k * sz) 0) := fun w _ => by
  have h := (acts_eval (n := c.n) (ρ := ρ) hr).trans hx
  have h1 := (acts_eval (n := c.n) (ρ := ρ) hr1).trans hy
  rw [ptr_eq]
  generalize (acts c.n ρ).eval = ε at h h1 ⊢
  simp only [execOp, h, h1]
  refine run_v ?_
  unfold Instr.indexAt
  have hk' : (0 : Int) ≤ k ∧ (k : Int) < n := by omega
  simp [go_sem, asIntOf, E.und, E.size, hk', add_mk]
  intro hn; omega
end

end Go.Eng

namespace Go.Eng
open Go Go.RowKit

/-! ### a region that draws its order
 Operations that only yield a value are taken as early as they may come; the others come one behind the other. S holds behind every operation but the last ones ('fin'), which wait for all that is taken. -/
section
variable {P : Program} {ops : Array Oper} {Q : Exit → Act → World → Prop} {S : World → Prop} {fin : Nat → Bool}
def wpAnyF (P : Program) (ops : Array Oper) (Q : Exit → Act → World → Prop) (S : World → Prop) (fin : Nat → Bool) : Nat → Array Bool → Act → World → Prop
  | 0, listed, a, w => Region.ready .any ops listed = [] ∧ Q .normal a w
  | fuel + 1, listed, a, w =>
    (Region.ready .any ops listed = [] → Q .normal a w) ∧
    ∀ i ∈ Region.ready .any ops listed, wpOp P ops Q i (fun a' w' => (fin i = false → S w') ∧ wpAnyF P ops Q S fin fuel (listed.setIfInBounds i true) a' w') a w

theorem wpAny_of_F : ∀ (fuel : Nat) (listed : Array Bool) (a : Act) (w : World), wpAnyF P ops Q S fin fuel listed a w → wpAny P .any ops Q fuel listed a w
  | 0, _, _, _, h => h
  | fuel + 1, _, _, _, h => ⟨h.1, fun i hi => wpOp_mono (fun a' w' h' => wpAny_of_F fuel _ a' w' h'.2) (h.2 i hi)⟩

theorem wpAnyF_first {i : Nat} {oi : Oper} {v : Value} (hi : ops[i]? = some oi) (hsel : ∀ (j : Nat) (o : Oper) cs b, ops[j]? = some o → o.op ≠ .select cs b)
    (hQ : ∀ c a w, Q (.panic c) (a.put oi.dst v) w → Q (.panic c) a w)
    (hfin : ∀ j oj, ops[j]? = some oj → fin j = true → ∃ e ∈ oj.after, Region.binds .any e = true ∧ e.on = i) :
    ∀ (fuel : Nat) (listed : Array Bool) (a : Act) (w : World),
      (∀ j oj, ops[j]? = some oj → j ≠ i → listed.getD j true = false → (∀ e ∈ oj.after, Region.binds .any e = true → e.on ≠ i) → oi.apart ops oj = true) →
      i ∈ Region.ready .any ops listed → YieldsIf P ops S oi v a → S w →
      wpAnyF P ops Q S fin fuel (listed.setIfInBounds i true) (a.put oi.dst v) w → wpAnyF P ops Q S fin (fuel + 1) listed a w := by
  intro fuel
  induction fuel with
  | zero =>
    intro listed a w _ hr hy hS H
    refine ⟨fun h => (by rw [h] at hr; cases hr), fun j hj => ?_⟩
    by_cases hji : j = i
    · subst hji; exact hy.wpOp hi hS ⟨fun _ => hS, H⟩
    · have := ready_mono hj hji
      rw [H.1] at this
      cases this
  | succ fuel ih =>
    intro listed a w hfree hr hy hS H
    refine ⟨fun h => (by rw [h] at hr; cases hr), fun j hj => ?_⟩
    by_cases hji : j = i
    · subst hji; exact hy.wpOp hi hS ⟨fun _ => hS, H⟩
    · have h1 := H.2 j (ready_mono hj hji)
      obtain ⟨hjun, oj, hoj, hall⟩ := mem_ready.1 hj
      have hnot : ∀ e ∈ oj.after, Region.binds .any e = true → e.on ≠ i := fun e he hb heq => by
        have h1 := hall e he hb
        have h0 := (mem_ready.1 hr).1
        rw [heq] at h1
        rcases Nat.lt_or_ge i listed.size with h' | h'
        · simp [h'] at h0 h1; rw [h0] at h1; cases h1
        · simp [Array.getElem?_eq_none h'] at h1
      have hnf : fin j = false := by
        cases hf : fin j with
        | false => rfl
        | true =>
          obtain ⟨e, he, hb, ho⟩ := hfin j oj hoj hf
          exact absurd ho (hnot e he hb)
      have h2 := wpOp_putIf hoj (hfree j oj hoj hji hjun hnot) (fun cs b => hsel i oi cs b hi) (fun cs b => hsel j oj cs b hoj) hQ hy h1
      have hfree' : ∀ k ok, ops[k]? = some ok → k ≠ i → (listed.setIfInBounds j true).getD k true = false →
          (∀ e ∈ ok.after, Region.binds .any e = true → e.on ≠ i) → oi.apart ops ok = true := fun k ok hk hki hun hno => by
        refine hfree k ok hk hki ?_ hno
        by_cases hjk : j = k
        · subst hjk; exact hjun
        · rw [getD_set_ne true hjk] at hun; exact hun
      refine wpOp_mono (fun a' w' h3 => ⟨h3.2.1, ih (listed.setIfInBounds j true) a' w' hfree' (ready_mono hr (Ne.symm hji)) h3.1 (h3.2.1 hnf) ?_⟩) h2
      rw [Array.setIfInBounds_comm _ _ hji]
      exact h3.2.2

/-- an order: number and whether it is taken (true) or comes alone (false) -/
def wpOrd (P : Program) (ops : Array Oper) (Q : Exit → Act → World → Prop) (S : World → Prop) (fin : Nat → Bool) : List (Nat × Bool) → Act → World → Prop
  | [], a, w => Q .normal a w
  | (i, true) :: l, a, w => ∃ o v, ops[i]? = some o ∧ YieldsIf P ops S o v a ∧ wpOrd P ops Q S fin l (a.put o.dst v) w
  | (j, false) :: l, a, w => wpOp P ops Q j (fun a' w' => (fin j = false → S w') ∧ wpOrd P ops Q S fin l a' w') a w

def OrdP (ops : Array Oper) (fin : Nat → Bool) : Array Bool → List (Nat × Bool) → Prop
  | listed, [] => Region.ready .any ops listed = []
  | listed, (i, true) :: l => i ∈ Region.ready .any ops listed ∧ (∀ oi, ops[i]? = some oi → ∀ j oj, ops[j]? = some oj → j ≠ i → listed.getD j true = false → (∀ e ∈ oj.after, Region.binds .any e = true → e.on ≠ i) → oi.apart ops oj = true) ∧
      (∀ j oj, ops[j]? = some oj → fin j = true → ∃ e ∈ oj.after, Region.binds .any e = true ∧ e.on = i) ∧ OrdP ops fin (listed.setIfInBounds i true) l
  | listed, (j, false) :: l => j ∈ Region.ready .any ops listed ∧ (∀ i ∈ Region.ready .any ops listed, i = j) ∧ (fin j = true → l.all (fun p => !p.2) = true) ∧ OrdP ops fin (listed.setIfInBounds j true) l

theorem wpOrd_sound (hs : Region.noSelect ops = true) (hQ : ∀ c a d v w, Q (.panic c) (Act.put a d v) w → Q (.panic c) a w) :
    ∀ (l : List (Nat × Bool)) (listed : Array Bool) (a : Act) (w : World), OrdP ops fin listed l → (l.any (·.2) = true → S w) → wpOrd P ops Q S fin l a w → wpAnyF P ops Q S fin l.length listed a w := by
  intro l
  induction l with
  | nil =>
    intro listed a w hok _ h
    exact ⟨hok, h⟩
  | cons p l ih =>
    intro listed a w hok hS h
    obtain ⟨i, b⟩ := p
    cases b with
    | true =>
      obtain ⟨o, v, ho, hy, hk⟩ := h
      obtain ⟨h1, h2, h3, h4⟩ := hok
      have hSw := hS (by simp)
      exact wpAnyF_first ho (Region.noSelect_spec hs) (fun c a w => hQ c a _ _ w) h3 _ _ _ _ (h2 o ho) h1 hy hSw (ih _ _ _ h4 (fun _ => hSw) hk)
    | false =>
      obtain ⟨h0, h1, h2, h3⟩ := hok
      refine ⟨fun he => (by rw [he] at h0; cases h0), fun j hj => ?_⟩
      have := h1 j hj
      subst this
      refine wpOp_mono (fun a' w' hk => ⟨hk.1, ih _ _ _ h3 (fun hany => ?_) hk.2⟩) h
      cases hf : fin j with
      | false => exact hk.1 hf
      | true =>
        have h2 := h2 hf
        simp only [List.all_eq_true, Bool.not_eq_true'] at h2
        obtain ⟨q, hq, hq2⟩ := List.any_eq_true.1 hany
        rw [h2 q hq] at hq2; cases hq2

theorem wpAnyF_fuel : ∀ (m n : Nat) (listed : Array Bool) (a : Act) (w : World), m ≤ n → wpAnyF P ops Q S fin m listed a w → wpAnyF P ops Q S fin n listed a w := by
  intro m
  induction m with
  | zero =>
    intro n listed a w _ h
    cases n with
    | zero => exact h
    | succ n => exact ⟨fun _ => h.2, by rw [h.1]; simp⟩
  | succ m ih =>
    intro n listed a w hmn h
    cases n with
    | zero => omega
    | succ n => exact ⟨h.1, fun i hi => wpOp_mono (fun a' w' hk => ⟨hk.1, ih n _ _ _ (by omega) hk.2⟩) (h.2 i hi)⟩
end

/-! the same look, by masks -/
structure OI where
  (p d l : Nat)
def pmask : List Edge → Nat
  | [] => 0
  | e :: l => bif Region.binds .any e then Nat.lor (Nat.pow 2 e.on) (pmask l) else pmask l
def tmask : List Nat → Nat
  | [] => 0
  | t :: l => Nat.lor (Nat.pow 2 t) (tmask l)
def oi (ops : Array Oper) (o : Oper) : OI := ⟨pmask o.after.toList, match o.dst with | some d => Nat.pow 2 d | none => 0, tmask (o.looksAt ops)⟩
theorem pmask_bit (k : Nat) : ∀ l : List Edge, (pmask l).testBit k = true ↔ ∃ e ∈ l, Region.binds .any e = true ∧ e.on = k
  | [] => by simp [pmask]
  | e :: l => by
    have ih := pmask_bit k l
    simp only [pmask]
    cases hb : Region.binds .any e
    · simp only [cond_false, ih, List.mem_cons, exists_eq_or_imp, hb, Bool.false_eq_true, false_and, false_or]
    · simp only [cond_true, List.mem_cons, exists_eq_or_imp, hb, true_and]
      show (Nat.pow 2 e.on ||| pmask l).testBit k = true ↔ _
      rw [Nat.testBit_or, Bool.or_eq_true, ih]
      show (2 ^ e.on).testBit k = true ∨ _ ↔ _
      rw [Nat.testBit_two_pow]; simp
theorem tmask_bit (k : Nat) : ∀ l : List Nat, (tmask l).testBit k = true ↔ k ∈ l
  | [] => by simp [tmask]
  | t :: l => by
    simp only [tmask, List.mem_cons]
    show (Nat.pow 2 t ||| tmask l).testBit k = true ↔ _
    rw [Nat.testBit_or, Bool.or_eq_true, tmask_bit k l]
    show (2 ^ t).testBit k = true ∨ _ ↔ _
    rw [Nat.testBit_two_pow]; simp [eq_comm]
def takeGo (fin : Nat → Bool) (L i : Nat) (x : OI) : Nat → List OI → Bool
  | _, [] => true
  | j, y :: I => (Nat.beq j i || Nat.testBit L j || Nat.testBit y.p i || (Nat.beq (Nat.land x.d (Nat.lor y.l y.d)) 0 && Nat.beq (Nat.land y.d x.l) 0)) && (!fin j || Nat.testBit y.p i) && takeGo fin L i x (j + 1) I
def alGo (L i : Nat) : Nat → List OI → Bool
  | _, [] => true
  | j, y :: I => (Nat.beq j i || Nat.testBit L j || !Nat.beq (Nat.land y.p L) y.p) && alGo L i (j + 1) I
def endGo (L : Nat) : Nat → List OI → Bool
  | _, [] => true
  | j, y :: I => (Nat.testBit L j || !Nat.beq (Nat.land y.p L) y.p) && endGo L (j + 1) I
def force (n : Nat) (f : Nat → Bool) : Bool := match n with | 0 => f 0 | m + 1 => f (m + 1)
theorem force_eq (n : Nat) (f : Nat → Bool) : force n f = f n := by cases n <;> rfl
def goM (I : List OI) (fin : Nat → Bool) : Nat → List (Nat × Bool) → Bool
  | L, [] => endGo L 0 I
  | L, (i, true) :: l => (match I[i]? with | some x => !Nat.testBit L i && Nat.beq (Nat.land x.p L) x.p && takeGo fin L i x 0 I | none => false) && force (Nat.lor L (Nat.pow 2 i)) fun L' => goM I fin L' l
  | L, (j, false) :: l => (match I[j]? with | some x => !Nat.testBit L j && Nat.beq (Nat.land x.p L) x.p && alGo L j 0 I | none => false) && (!fin j || l.all (fun p => !p.2)) && force (Nat.lor L (Nat.pow 2 j)) fun L' => goM I fin L' l
def mkI (ops : Array Oper) : List Oper → (List OI → Bool) → Bool
  | [], k => k []
  | o :: r, k => force (oi ops o).p fun p => force (oi ops o).d fun d => force (oi ops o).l fun l => mkI ops r fun I => k (⟨p, d, l⟩ :: I)
theorem mkI_eq (ops : Array Oper) : ∀ (l : List Oper) (k : List OI → Bool), mkI ops l k = k (l.map (oi ops))
  | [], _ => rfl
  | o :: r, k => by simp only [mkI, force_eq, mkI_eq ops r, List.map_cons]
def ordOkM (ops : Array Oper) (fin : Nat → Bool) (order : List (Nat × Bool)) : Bool := mkI ops ops.toList fun I => goM I fin 0 order

theorem land_sub {p L : Nat} (h : Nat.beq (Nat.land p L) p = true) (k : Nat) (hk : p.testBit k = true) : L.testBit k = true := by
  have := Nat.eq_of_beq_eq_true h
  have h2 : (p &&& L).testBit k = p.testBit k := by show (Nat.land p L).testBit k = _; rw [this]
  rw [Nat.testBit_and, hk] at h2
  simpa using h2
theorem land_nsub {p L : Nat} (h : Nat.beq (Nat.land p L) p = false) : ∃ k, p.testBit k = true ∧ L.testBit k = false := by
  apply Classical.byContradiction
  intro hn
  have : Nat.land p L = p := by
    apply Nat.eq_of_testBit_eq
    intro k
    show (p &&& L).testBit k = _
    rw [Nat.testBit_and]
    cases hp : p.testBit k
    · rfl
    · cases hL : L.testBit k
      · exact absurd ⟨k, hp, hL⟩ hn
      · rfl
  rw [this] at h; simp at h
/-- the mask says which are listed -/
def RelM (ops : Array Oper) (listed : Array Bool) (L : Nat) : Prop := listed.size = ops.size ∧ (∀ i, i < ops.size → listed.getD i false = L.testBit i) ∧ ∀ i, L.testBit i = true → i < ops.size
theorem RelM.getD {ops : Array Oper} {listed : Array Bool} {L i : Nat} (h : RelM ops listed L) (hi : i < ops.size) (d : Bool) : listed.getD i d = L.testBit i := by
  rw [← h.2.1 i hi]
  have : i < listed.size := by rw [h.1]; exact hi
  simp [this]
theorem RelM.set {ops : Array Oper} {listed : Array Bool} {L i : Nat} (h : RelM ops listed L) (hi : i < ops.size) : RelM ops (listed.setIfInBounds i true) (Nat.lor L (Nat.pow 2 i)) := by
  have hb : ∀ j, (Nat.lor L (Nat.pow 2 i)).testBit j = (L.testBit j || decide (i = j)) := fun j => by
    show (L ||| 2 ^ i).testBit j = _
    rw [Nat.testBit_or, Nat.testBit_two_pow]
  refine ⟨by simp [h.1], fun j hj => ?_, fun j hj => ?_⟩
  · rw [hb]
    by_cases hij : i = j
    · subst hij
      have : i < listed.size := by rw [h.1]; exact hi
      simp [this]
    · rw [getD_set_ne false hij, h.2.1 j hj]
      simp [hij]
  · rw [hb, Bool.or_eq_true] at hj
    rcases hj with hj | hj
    · exact h.2.2 j hj
    · have := of_decide_eq_true hj; omega
section
variable {ops : Array Oper} {fin : Nat → Bool} {listed : Array Bool} {L : Nat}
theorem infos_get {i : Nat} : (ops.toList.map (oi ops))[i]? = (ops[i]?).map (oi ops) := by simp
theorem rdy_of (hR : RelM ops listed L) {i : Nat} {o : Oper} (ho : ops[i]? = some o) (h1 : Nat.testBit L i = false) (h2 : Nat.beq (Nat.land (oi ops o).p L) (oi ops o).p = true) : i ∈ Region.ready .any ops listed := by
  have hi := (Array.getElem?_eq_some_iff.1 ho).1
  rw [mem_ready]
  refine ⟨by rw [hR.getD hi]; exact h1, o, ho, fun e he hb => ?_⟩
  have hbit : (oi ops o).p.testBit e.on = true := (pmask_bit _ _).2 ⟨e, by simpa using he, hb, rfl⟩
  have := land_sub h2 _ hbit
  rw [hR.getD (hR.2.2 _ this)]; exact this
theorem not_rdy_of (hR : RelM ops listed L) {i : Nat} {o : Oper} (ho : ops[i]? = some o) (h : Nat.testBit L i = true ∨ Nat.beq (Nat.land (oi ops o).p L) (oi ops o).p = false) : i ∉ Region.ready .any ops listed := by
  have hi := (Array.getElem?_eq_some_iff.1 ho).1
  rw [mem_ready]
  rintro ⟨h0, o', ho', hall⟩
  rw [hR.getD hi] at h0
  rcases h with h | h
  · rw [h] at h0; cases h0
  · rw [ho] at ho'; injection ho' with ho'; subst ho'
    obtain ⟨k, hk, hL⟩ := land_nsub h
    obtain ⟨e, he, hb, rfl⟩ := (pmask_bit _ _).1 hk
    have h1 := hall e (by simpa using he) hb
    by_cases hlt : e.on < ops.size
    · rw [hR.getD hlt, hL] at h1; cases h1
    · have : ¬ e.on < listed.size := by rw [hR.1]; exact hlt
      simp [this] at h1
theorem takeGo_spec {x : OI} {i : Nat} : ∀ (I : List OI) (j0 : Nat), takeGo fin L i x j0 I = true → ∀ k y, I[k]? = some y →
    (Nat.beq (j0 + k) i || Nat.testBit L (j0 + k) || Nat.testBit y.p i || (Nat.beq (Nat.land x.d (Nat.lor y.l y.d)) 0 && Nat.beq (Nat.land y.d x.l) 0)) = true ∧ (fin (j0 + k) = true → Nat.testBit y.p i = true)
  | [], _, _, k, y, h => by simp at h
  | z :: I, j0, h, k, y, hk => by
    simp only [takeGo] at h
    rw [Bool.and_eq_true, Bool.and_eq_true] at h
    cases k with
    | zero =>
      simp at hk; subst hk
      refine ⟨h.1.1, fun hf => ?_⟩
      have := h.1.2
      simp only [Nat.add_zero] at hf
      rw [hf] at this; simpa using this
    | succ k =>
      have := takeGo_spec I (j0 + 1) h.2 k y (by simpa using hk)
      rw [show j0 + (k + 1) = j0 + 1 + k by omega]; exact this
theorem alGo_spec {i : Nat} : ∀ (I : List OI) (j0 : Nat), alGo L i j0 I = true → ∀ k y, I[k]? = some y → (Nat.beq (j0 + k) i || Nat.testBit L (j0 + k) || !Nat.beq (Nat.land y.p L) y.p) = true
  | [], _, _, k, y, h => by simp at h
  | z :: I, j0, h, k, y, hk => by
    simp only [alGo] at h
    rw [Bool.and_eq_true] at h
    cases k with
    | zero => simp at hk; subst hk; exact h.1
    | succ k =>
      have := alGo_spec I (j0 + 1) h.2 k y (by simpa using hk)
      rw [show j0 + (k + 1) = j0 + 1 + k by omega]; exact this
theorem endGo_spec : ∀ (I : List OI) (j0 : Nat), endGo L j0 I = true → ∀ k y, I[k]? = some y → (Nat.testBit L (j0 + k) || !Nat.beq (Nat.land y.p L) y.p) = true
  | [], _, _, k, y, h => by simp at h
  | z :: I, j0, h, k, y, hk => by
    simp only [endGo] at h
    rw [Bool.and_eq_true] at h
    cases k with
    | zero => simp at hk; subst hk; exact h.1
    | succ k =>
      have := endGo_spec I (j0 + 1) h.2 k y (by simpa using hk)
      rw [show j0 + (k + 1) = j0 + 1 + k by omega]; exact this
theorem land_zero {a b k : Nat} (h : Nat.beq (Nat.land a b) 0 = true) (ha : a.testBit k = true) : b.testBit k = false := by
  have := Nat.eq_of_beq_eq_true h
  have h2 : (a &&& b).testBit k = false := by show (Nat.land a b).testBit k = _; rw [this]; simp
  rw [Nat.testBit_and, ha] at h2
  simpa using h2
theorem apart_of {x y : Oper} (h1 : Nat.beq (Nat.land (oi ops x).d (Nat.lor (oi ops y).l (oi ops y).d)) 0 = true) (h2 : Nat.beq (Nat.land (oi ops y).d (oi ops x).l) 0 = true) : x.apart ops y = true := by
  have hd : ∀ (z : Oper) d, z.dst = some d → (oi ops z).d.testBit d = true := fun z d hz => by
    show (match z.dst with | some d => Nat.pow 2 d | none => 0).testBit d = true
    rw [hz]; show (2 ^ d).testBit d = true; rw [Nat.testBit_two_pow]; simp
  have hl : ∀ (z : Oper) t, (oi ops z).l.testBit t = false → t ∉ z.looksAt ops := fun z t ht hm => by
    have := (tmask_bit t (z.looksAt ops)).2 hm
    rw [show (oi ops z).l = tmask (z.looksAt ops) from rfl] at ht
    rw [ht] at this; cases this
  unfold Oper.apart
  rw [Bool.and_eq_true]
  constructor
  · cases hx : x.dst with
    | none => rfl
    | some d =>
      have := land_zero h1 (hd x d hx)
      rw [show Nat.lor (oi ops y).l (oi ops y).d = (oi ops y).l ||| (oi ops y).d from rfl, Nat.testBit_or, Bool.or_eq_false_iff] at this
      simp only [Bool.and_eq_true, Bool.not_eq_true', bne_iff_ne, ne_eq]
      refine ⟨by simpa using hl y d this.1, fun he => ?_⟩
      rw [hd y d he] at this
      exact absurd this.2 (by simp)
  · cases hy : y.dst with
    | none => rfl
    | some d =>
      have := land_zero h2 (hd y d hy)
      simpa using hl x d this
theorem goM_spec : ∀ (l : List (Nat × Bool)) (listed : Array Bool) (L : Nat), RelM ops listed L → goM (ops.toList.map (oi ops)) fin L l = true → OrdP ops fin listed l
  | [], listed, L, hR, h => by
    show Region.ready .any ops listed = []
    apply List.eq_nil_iff_forall_not_mem.2
    intro i hi
    obtain ⟨_, o, ho, _⟩ := mem_ready.1 hi
    have := endGo_spec _ _ h i (oi ops o) (by rw [infos_get, ho]; rfl)
    rw [Nat.zero_add, Bool.or_eq_true] at this
    exact not_rdy_of hR ho (this.imp id (by simp)) hi
  | (i, true) :: l, listed, L, hR, h => by
    simp only [goM, force_eq, infos_get] at h
    cases ho : ops[i]? with
    | none => simp [ho] at h
    | some o =>
      simp only [ho, Option.map_some] at h
      rw [Bool.and_eq_true, Bool.and_eq_true, Bool.and_eq_true, Bool.not_eq_true'] at h
      obtain ⟨⟨⟨h1, h2⟩, h3⟩, h4⟩ := h
      refine ⟨rdy_of hR ho h1 h2, ?_, ?_, goM_spec l _ _ (hR.set (Array.getElem?_eq_some_iff.1 ho).1) h4⟩
      · intro o' ho' j oj hj hji hun hno
        rw [ho] at ho'; injection ho' with ho'; subst ho'
        have hk := (takeGo_spec _ _ h3 j (oi ops oj) (by rw [infos_get, hj]; rfl)).1
        rw [Nat.zero_add] at hk
        have hjl := (Array.getElem?_eq_some_iff.1 hj).1
        have e1 : Nat.beq j i = false := by
          apply Bool.eq_false_iff.2; intro hb; exact hji (Nat.eq_of_beq_eq_true hb)
        have e2 : Nat.testBit L j = false := by rw [← hR.getD hjl true]; exact hun
        have e3 : Nat.testBit (oi ops oj).p i = false := by
          apply Bool.eq_false_iff.2; intro hb
          obtain ⟨e, he, hb', rfl⟩ := (pmask_bit _ _).1 hb
          exact hno e (by simpa using he) hb' rfl
        rw [e1, e2, e3] at hk
        simp only [Bool.false_or, Bool.and_eq_true] at hk
        exact apart_of hk.1 hk.2
      · intro j oj hj hf
        have hk := (takeGo_spec _ _ h3 j (oi ops oj) (by rw [infos_get, hj]; rfl)).2 (by rw [Nat.zero_add]; exact hf)
        obtain ⟨e, he, hb, hon⟩ := (pmask_bit _ _).1 hk
        exact ⟨e, by simpa using he, hb, hon⟩
  | (j, false) :: l, listed, L, hR, h => by
    simp only [goM, force_eq, infos_get] at h
    cases ho : ops[j]? with
    | none => simp [ho] at h
    | some o =>
      simp only [ho, Option.map_some] at h
      rw [Bool.and_eq_true, Bool.and_eq_true, Bool.and_eq_true, Bool.and_eq_true, Bool.not_eq_true'] at h
      obtain ⟨⟨⟨⟨h1, h2⟩, h3⟩, h5⟩, h4⟩ := h
      refine ⟨rdy_of hR ho h1 h2, ?_, ?_, goM_spec l _ _ (hR.set (Array.getElem?_eq_some_iff.1 ho).1) h4⟩
      · intro i hi
        obtain ⟨_, oi', hoi, _⟩ := mem_ready.1 hi
        have hk := alGo_spec _ _ h3 i (oi ops oi') (by rw [infos_get, hoi]; rfl)
        rw [Nat.zero_add, Bool.or_eq_true, Bool.or_eq_true] at hk
        rcases hk with (hk | hk) | hk
        · exact Nat.eq_of_beq_eq_true hk
        · exact absurd hi (not_rdy_of hR hoi (.inl hk))
        · exact absurd hi (not_rdy_of hR hoi (.inr (by simpa using hk)))
      · intro hf
        rw [hf] at h5
        simpa using h5
theorem ordOkM_spec {order : List (Nat × Bool)} (h : ordOkM ops fin order = true) : OrdP ops fin (Array.replicate ops.size false) order := by
  unfold ordOkM at h
  rw [mkI_eq] at h
  refine goM_spec order _ 0 ⟨by simp, fun i hi => by simp [hi], fun i hi => by simp at hi⟩ h
end
/-- no panic's post hangs on the registers -/
class PQ (R : Exit → Act → World → Prop) : Prop where
  pq : ∀ c a d v w, R (.panic c) (Act.put a d v) w → R (.panic c) a w
instance {P : Program} {fn : Func} {R : Ending → World → Prop} : PQ (bodyPost P fn R) := ⟨fun c a d v w h => by
  cases d with
  | none => exact h
  | some d => exact h⟩
theorem stk_pq {P : Program} {R : Exit → Act → World → Prop} [h : PQ R] : ∀ s c a d v w, stk P R s (.panic c) (Act.put a d v) w → stk P R s (.panic c) a w
  | [], c, a, d, v, w, hq => h.pq c a d v w hq
  | .seq _ :: s, c, a, d, v, w, hq => stk_pq s c a d v w hq
  | .blk _ :: s, c, a, d, v, w, hq => stk_pq s c a d v w hq
  | .lp _ :: s, c, a, d, v, w, hq => stk_pq s c a d v w hq

/-- the rest of a region that draws, in an order that stands for all -/
def SD (c : Cx) (R : Exit → Act → World → Prop) (s : List Fr) (ops : Array Oper) (Hs : List As) (fin : Nat → Bool) (l : List (Nat × Bool)) : Kt := fun ρ H =>
  ∀ w, Sat c.w0 c.B H w → wpOrd c.P ops (stk c.P R s) (Sat c.w0 c.B Hs) fin l (acts c.n ρ) w

section
variable {c : Cx} {R : Exit → Act → World → Prop} {s : List Fr} {ops : Array Oper} {Hs : List As} {fin : Nat → Bool} {l : List (Nat × Bool)} {ρ : Rg} {H : List As}

theorem Below.of_drew {B : Nat} {w : World} : Below B w { w with drawn := w.drawn + 1 } := ⟨rfl, rfl, rfl, Nat.le_refl _, fun _ _ => rfl⟩

theorem SC.regionD [PQ R] {id : Nat} {ol : List Oper} (Hs : List As) (fin : Nat → Bool) (order : List (Nat × Bool)) (hm : c.P.follows .mixedOrders = true) (hs : Region.noSelect ol.toArray = true)
    (hok : ordOkM ol.toArray fin order = true) (hl : Nat.ble order.length ol.toArray.size = true) (hS : ∀ w, Sat c.w0 c.B H w → Sat c.w0 c.B Hs w)
    (h : SD c R s ol.toArray Hs fin order ρ H) : SC c R s (.region id ol.toArray true) ρ H := fun w hw => by
  have hw' := hw.below (w' := { w with drawn := w.drawn + 1 }) Below.of_drew
  exact wp_region_any hm (wpAny_of_F _ _ _ _ (wpAnyF_fuel _ _ _ _ _ (Nat.le_of_ble_eq_true hl) (wpOrd_sound hs (fun c a d v w => stk_pq s c a d v w) order _ _ _ (ordOkM_spec hok) (fun _ => hS _ hw') (h _ hw'))))

theorem OpR.imp {Q : Exit → Act → World → Prop} {o : Oper} {K K' : Kt} (h : OpR c ops Q o ρ H K) (hk : ∀ ρ' H', K ρ' H' → K' ρ' H') : OpR c ops Q o ρ H K' := fun w Kw hw hK => h w Kw hw fun ρ' H' w' k hs => hK ρ' H' w' (hk ρ' H' k) hs
theorem SD.nil (h : SN c R s .normal ρ H) : SD c R s ops Hs fin [] ρ H := fun w hw => h w hw

variable {d : Tmp} {op : Op} {t : TypeId} {pos : String} {af : Array Edge} {i : Nat}
theorem SD.val {v : Value} (ho : ops[i]? = some ⟨some d, op, t, pos, af, none⟩) (h : Val c ρ Hs ⟨some d, op, t, pos, af, none⟩ v) (k : SD c R s ops Hs fin l (upd ρ d v) H) : SD c R s ops Hs fin ((i, true) :: l) ρ H := fun w hw => by
  refine ⟨_, v, ho, .inl ⟨rfl, fun w' hw' => h w' hw'⟩, ?_⟩
  have := k w hw
  rw [← acts_put] at this
  exact this
theorem SD.valG {v : Value} {gi gd : Nat} {want G : Bool} (ho : ops[i]? = some ⟨some d, op, t, pos, af, some (gi, want)⟩) (hd : (ops[gi]?).bind (·.dst) = some gd) (hn : Nat.blt gd c.n = true) (hG : GdOf (ρ gd) want G)
    (h : G = true → Val c ρ Hs ⟨some d, op, t, pos, af, some (gi, want)⟩ v) (k : SD c R s ops Hs fin l (upd ρ d (gv G v)) H) : SD c R s ops Hs fin ((i, true) :: l) ρ H := fun w hw => by
  have hwt : Region.wanted ⟨some d, op, t, pos, af, some (gi, want)⟩ (yielded ops (acts c.n ρ).tmps) = G := wanted_of hd hn hG
  refine ⟨_, gv G v, ho, ?_, ?_⟩
  · cases G with
    | true => exact .inl ⟨hwt, fun w' hw' => h rfl w' hw'⟩
    | false => exact .inr ⟨hwt, rfl⟩
  · have := k w hw
    rw [← acts_put] at this
    exact this
theorem SD.one {o : Oper} (ho : ops[i]? = some o) (h : OpR c ops (stk c.P R s) o ρ H (fun ρ' H' => (fin i = false → ∀ w, Sat c.w0 c.B H' w → Sat c.w0 c.B Hs w) ∧ SD c R s ops Hs fin l ρ' H')) : SD c R s ops Hs fin ((i, false) :: l) ρ H := fun w hw => by
  have := h w (fun a' w' => (fin i = false → Sat c.w0 c.B Hs w') ∧ wpOrd c.P ops (stk c.P R s) (Sat c.w0 c.B Hs) fin l a' w') hw (fun ρ' H' w' hk hs => ⟨fun hf => hk.1 hf w' hs, hk.2 w' hs⟩)
  show wpOp _ _ _ _ _ _ _
  unfold wpOp
  simp only [ho]
  exact this
end
end Go.Eng

namespace Go.Eng
open Go Go.RowKit IntWalk

theorem wrap_u64 (n : Int) : IntKind.u64.wrap n = n % 18446744073709551616 := by simp [IntKind.wrap, IntKind.bits, IntKind.signed]
theorem u64_inj {a b : UInt64} : (a.toNat : Int) = b.toNat ↔ a = b := by
  rw [Int.natCast_inj, UInt64.toNat_inj]
def cmpU : BinOp → UInt64 → UInt64 → Option Bool
  | .eql, a, b => some (decide (a = b))
  | .neq, a, b => some (!decide (a = b))
  | .lss, a, b => some (decide (a < b))
  | .leq, a, b => some (decide (a ≤ b))
  | .gtr, a, b => some (decide (b < a))
  | .geq, a, b => some (decide (b ≤ a))
  | _, _, _ => none
theorem cmpU_of {op : BinOp} {a b : UInt64} {r : Bool} (h : cmpU op a b = some r) : cmpOf op (a.toNat : Int) b.toNat = some r := by
  cases op <;> simp only [cmpU, cmpOf, Option.some.injEq, reduceCtorEq] at h ⊢ <;> subst h <;> first
    | (simp only [u64_inj])
    | (congr 1; simp only [UInt64.lt_iff_toNat_lt, Int.ofNat_lt])
    | (congr 1; simp only [UInt64.le_iff_toNat_le, Int.ofNat_le])
def arU : BinOp → UInt64 → UInt64 → Option UInt64
  | .add, a, b => some (a + b)
  | .sub, a, b => some (a - b)
  | .mul, a, b => some (a * b)
  | _, _, _ => none
theorem arU_of {op : BinOp} {a b r : UInt64} (h : arU op a b = some r) : arOf .u64 op (a.toNat : Int) b.toNat = some (r.toNat : Int) := by
  have ha := a.toNat_lt; have hb := b.toNat_lt
  cases op <;> simp only [arU, arOf, Option.some.injEq, reduceCtorEq] at h ⊢ <;> subst h <;> rw [wrap_u64]
  · rw [UInt64.toNat_add]; omega
  · rw [UInt64.toNat_sub]; omega
  · rw [UInt64.toNat_mul]; simp
section
variable {c : Cx} {ops : Array Oper} {Q : Exit → Act → World → Prop} {ρ : Rg} {H : List As} {K : Kt} {t : TypeId} {pos : String} {af : Array Edge} {dst : Option Tmp} {gd : Option (Nat × Bool)}
theorem Val.cmpU {op : BinOp} {x y : Operand} {a b : UInt64} {t1 t2 : TypeId} {r : Bool} (hr : inR c.n x = true) (hr1 : inR c.n y = true) (hx : ev ρ x = u64 a) (hy : ev ρ y = u64 b) (he : Eng.cmpU op a b = some r) :
    Val c ρ H ⟨dst, .binOp op t1 x y t2, t, pos, af, gd⟩ (.bool r) := Val.cmp hr hr1 (hx.trans (u64_eq a)) (hy.trans (u64_eq b)) (cmpU_of he)
theorem Val.arU {op : BinOp} {x y : Operand} {a b r : UInt64} {t1 t2 : TypeId} (hr : inR c.n x = true) (hr1 : inR c.n y = true) (hx : ev ρ x = u64 a) (hy : ev ρ y = u64 b) (he : Eng.arU op a b = some r) :
    Val c ρ H ⟨dst, .binOp op t1 x y t2, t, pos, af, gd⟩ (u64 r) := by
  rw [u64_eq]; exact Val.arith hr hr1 (hx.trans (u64_eq a)) (hy.trans (u64_eq b)) (arU_of he)
theorem Val.quoU {x y : Operand} {a b : UInt64} {t1 t2 : TypeId} (hr : inR c.n x = true) (hr1 : inR c.n y = true) (hx : ev ρ x = u64 a) (hy : ev ρ y = u64 b) (hb : b ≠ 0) :
    Val c ρ H ⟨dst, .binOp .quo t1 x y t2, t, pos, af, gd⟩ (u64 (a / b)) := fun w _ => by
  rw [u64_eq]
  refine run_bin_int ((acts_eval hr).trans (hx.trans (u64_eq a))) ((acts_eval hr1).trans (hy.trans (u64_eq b))) ?_
  have hb' : (b.toNat : Int) ≠ 0 := fun h => hb (UInt64.toNat_inj.1 (by simpa using h))
  have ha := a.toNat_lt
  have hle : a.toNat / b.toNat ≤ a.toNat := Nat.div_le_self _ _
  have e : (a.toNat : Int).tdiv b.toNat = ((a / b).toNat : Int) := by
    rw [UInt64.toNat_div, Int.tdiv_eq_ediv_of_nonneg (by omega)]; simp
  have : (Op.intDiv .quo .u64 (a.toNat : Int) b.toNat).run c.P w = .ok (.int .u64 ((a / b).toNat : Int)) w := by
    unfold Op.intDiv
    rw [if_neg hb', e]
    have h2 : IntKind.u64.wrap ((a / b).toNat : Int) = ((a / b).toNat : Int) := by
      have := (a / b).toNat_lt
      exact u64_in _ (by omega)
    show Sem.run c.P (pure _) w = _
    rw [h2]; rfl
  exact this
theorem Val.remU {x y : Operand} {a b : UInt64} {t1 t2 : TypeId} (hr : inR c.n x = true) (hr1 : inR c.n y = true) (hx : ev ρ x = u64 a) (hy : ev ρ y = u64 b) (hb : b ≠ 0) :
    Val c ρ H ⟨dst, .binOp .rem t1 x y t2, t, pos, af, gd⟩ (u64 (a % b)) := fun w _ => by
  rw [u64_eq]
  refine run_bin_int ((acts_eval hr).trans (hx.trans (u64_eq a))) ((acts_eval hr1).trans (hy.trans (u64_eq b))) ?_
  have hb' : (b.toNat : Int) ≠ 0 := fun h => hb (UInt64.toNat_inj.1 (by simpa using h))
  have : (Op.intDiv .rem .u64 (a.toNat : Int) b.toNat).run c.P w = .ok (.int .u64 ((a % b).toNat : Int)) w := by
    unfold Op.intDiv
    rw [if_neg hb']
    show Sem.run c.P (pure _) w = _
    rw [Int.tmod_eq_emod_of_nonneg (by omega), UInt64.toNat_mod]
    simp [go_sem]
  exact this
/-- 'x / k', 'x % k' on an int that is not negative, k a positive number -/
theorem Val.quoI {x : Operand} {a k : Int} {t1 t2 : TypeId} (hr : inR c.n x = true) (hx : ev ρ x = .int .i64 a) (ha : 0 ≤ a ∧ a ≤ 9223372036854775807) (hk : 0 < k) :
    Val c ρ H ⟨dst, .binOp .quo t1 x (.const (.int .i64 k)) t2, t, pos, af, gd⟩ (.int .i64 (a / k)) := fun w _ => by
  refine run_bin_int ((acts_eval hr).trans hx) rfl ?_
  have h0 : 0 ≤ a / k := Int.ediv_nonneg ha.1 (by omega)
  have h1 : a / k ≤ a := Int.ediv_le_self _ ha.1
  have : (Op.intDiv .quo .i64 a k).run c.P w = .ok (.int .i64 (a / k)) w := by
    unfold Op.intDiv
    rw [if_neg (by omega)]
    show Sem.run c.P (pure _) w = _
    rw [Int.tdiv_eq_ediv_of_nonneg ha.1, i64_in _ (by omega)]; rfl
  exact this
theorem Val.remI {x : Operand} {a k : Int} {t1 t2 : TypeId} (hr : inR c.n x = true) (hx : ev ρ x = .int .i64 a) (ha : 0 ≤ a) (hk : 0 < k) :
    Val c ρ H ⟨dst, .binOp .rem t1 x (.const (.int .i64 k)) t2, t, pos, af, gd⟩ (.int .i64 (a % k)) := fun w _ => by
  refine run_bin_int ((acts_eval hr).trans hx) rfl ?_
  have : (Op.intDiv .rem .i64 a k).run c.P w = .ok (.int .i64 (a % k)) w := by
    unfold Op.intDiv
    rw [if_neg (by omega)]
    show Sem.run c.P (pure _) w = _
    rw [Int.tmod_eq_emod_of_nonneg ha]; rfl
  exact this
/-- sums of ints, wrapped -/
theorem Val.arW {op : BinOp} {x y : Operand} {a b r : Int} {t1 t2 : TypeId} (hr : inR c.n x = true) (hr1 : inR c.n y = true) (hx : ev ρ x = .int .i64 a) (hy : ev ρ y = .int .i64 b) (he : arOf .i64 op a b = some r) :
    Val c ρ H ⟨dst, .binOp op t1 x y t2, t, pos, af, gd⟩ (.int .i64 r) := Val.arith hr hr1 hx hy he

/-- what a function that has no body yields -/
class Ext (P : Program) (f : FuncId) (args : Array Value) (r : outParam Value) : Prop where
  run : ∀ w, (callFunc f args).run P w = .ok (.value r) w
theorem Val.ext {f : FuncId} {l : List Operand} {vs : List Value} {tys : Array TypeId} {r : Value} (hr : inRs c.n l = true) (hv : argsOf ρ l = vs) (h : ∀ w, (callFunc f vs.toArray).run c.P w = .ok (.value r) w) :
    Val c ρ H ⟨dst, .call ⟨.value (.func f), l.toArray, tys⟩, t, pos, af, gd⟩ r := fun w _ => by
  have h1 := (args_eval (ρ := ρ) hr).trans hv
  have he : (acts c.n ρ).eval (.func f) = .func (.func f) #[] #[] := rfl
  generalize (acts c.n ρ).eval = ε at h1 he ⊢
  simp [execOp, resolve, he, Deferred.ofValue, invoke, h1, go_sem, h]

theorem Val.makeFunc {f : FuncId} {l : List Operand} {vs : List Value} (hr : inRs c.n l = true) (hv : argsOf ρ l = vs) :
    Val c ρ H ⟨dst, .makeFunc (.func f) #[] l.toArray, t, pos, af, gd⟩ (.func (.func f) #[] vs.toArray) := fun w _ => by
  have h1 := (args_eval (ρ := ρ) hr).trans hv
  generalize (acts c.n ρ).eval = ε at h1 ⊢
  simp [execOp, Instr.makeFunc, h1, go_sem]

/-- a call of a function value that is known -/
theorem OpR.callC {d : Tmp} {x : Operand} {f : FuncId} {vs cs : List Value} {l : List Operand} {tys : Array TypeId} {r : Value} [F : FnB c.P f] (hrx : inR c.n x = true) (hx : ev ρ x = .func (.func f) #[] cs.toArray) (hr : inRs c.n l = true) (hv : argsOf ρ l = vs)
    (hc : ∀ w, Sat c.w0 c.B H w → Pure c.P f (vs ++ cs).toArray r w) (k : K (upd ρ d r) H) :
    OpR c ops Q ⟨some d, .call ⟨.value x, l.toArray, tys⟩, t, pos, af, none⟩ ρ H K := fun w Kw hw hK => by
  simp only [wpO, Region.wanted, if_true]
  refine .inl ?_
  unfold Oper.wp
  have h := (args_eval (ρ := ρ) hr).trans hv
  have hx' := (acts_eval (ρ := ρ) hrx).trans hx
  have hrun : (execOp (acts c.n ρ).eval ⟨some d, .call ⟨.value x, l.toArray, tys⟩, t, pos, af, none⟩).run c.P w = .ok (.enter f (vs ++ cs).toArray) w := by
    generalize (acts c.n ρ).eval = ε at h hx' ⊢
    simp [execOp, resolve, hx', Deferred.ofValue, invoke, h, go_sem, F.call]
  rw [hrun]
  show Calls _ _ _ _ _
  refine (hc w hw).mono ?_
  rintro e w' ⟨rfl, hb⟩
  show Kw _ _
  rw [acts_put]
  exact hK _ _ _ k (hw.below hb)

/-- a call, whatever it does: from H to H', its result r -/
theorem OpR.callX {d : Tmp} {f : FuncId} {l : List Operand} {vs : List Value} {tys : Array TypeId} [F : FnB c.P f] (hr : inRs c.n l = true) (hv : argsOf ρ l = vs) (Post : Value → List As → Prop)
    (hc : ∀ w, Sat c.w0 c.B H w → Calls c.P f vs.toArray w fun e w' => ∃ r H', e = .returned r ∧ Post r H' ∧ Sat c.w0 c.B H' w') (k : ∀ r H', Post r H' → K (upd ρ d r) H') :
    OpR c ops Q ⟨some d, .call ⟨.value (.func f), l.toArray, tys⟩, t, pos, af, none⟩ ρ H K := fun w Kw hw hK => by
  simp only [wpO, Region.wanted, if_true]
  refine .inl ?_
  unfold Oper.wp
  have h := (args_eval (ρ := ρ) hr).trans hv
  have hrun : (execOp (acts c.n ρ).eval ⟨some d, .call ⟨.value (.func f), l.toArray, tys⟩, t, pos, af, none⟩).run c.P w = .ok (.enter f vs.toArray) w := by
    have he : (acts c.n ρ).eval (.func f) = .func (.func f) #[] #[] := rfl
    generalize (acts c.n ρ).eval = ε at h he ⊢
    simp [execOp, resolve, he, Deferred.ofValue, invoke, h, go_sem, F.call]
  rw [hrun]
  show Calls _ _ _ _ _
  refine (hc w hw).mono ?_
  rintro e w' ⟨r, H', rfl, hp, hs⟩
  show Kw _ _
  rw [acts_put]
  exact hK _ _ _ (k r H' hp) hs
end

/-! ### slices that the call owns -/
def own (v : Value) (n : Nat) (e : TypeId) (sz : Nat) (xs : List Value) : As :=
  ⟨fun b => v.ownBlock = some b, fun w => w.ownsRow 0 e sz v n xs, fun w w' h hw => by
    obtain ⟨h1, h2⟩ := hw
    refine ⟨h1, ?_⟩
    rcases h2 with h2 | ⟨g, cap, cur, rfl, h3, h4, h5⟩
    · exact .inl h2
    · exact .inr ⟨g, cap, cur, rfl, h3, (h g rfl).trans h4, h5⟩⟩
class InOwn (H : List As) (v : Value) (n : outParam Nat) (e : outParam TypeId) (sz : outParam Nat) (xs : outParam (List Value)) (k : outParam (Value → Nat → List Value → List As)) : Prop where
  out : ∃ H1 H2, H = H1 ++ own v n e sz xs :: H2 ∧ ∀ v' n' xs', k v' n' xs' = H1 ++ own v' n' e sz xs' :: H2
instance InOwn.head {H : List As} {v n e sz xs} : InOwn (own v n e sz xs :: H) v n e sz xs (fun v' n' xs' => own v' n' e sz xs' :: H) := ⟨[], H, rfl, fun _ _ _ => rfl⟩
instance InOwn.tail {H : List As} {A : As} {v n e sz xs k} [i : InOwn H v n e sz xs k] : InOwn (A :: H) v n e sz xs (fun v' n' xs' => A :: k v' n' xs') :=
  ⟨let ⟨H1, H2, e, f⟩ := i.out; ⟨A :: H1, H2, by rw [e]; rfl, fun _ _ _ => by rw [f]; rfl⟩⟩
theorem Sat.nilOwn {w0 B H w} (h : Sat w0 B H w) (e : TypeId) (sz : Nat) : Sat w0 B (own (.slice none 0 0) 0 e sz [] :: H) w :=
  ⟨World.ownsRow_nil _ _ _ _, fun _ hb => by simp [own, Value.ownBlock] at hb, fun _ _ _ hb => by simp [own, Value.ownBlock] at hb, h⟩
theorem Sat.drop {w0 B A H w} (h : Sat w0 B (A :: H) w) : Sat w0 B H w := h.2.2.2

/-- facts on a slice type, for append -/
class SlT (P : Program) (t : TypeId) (e : outParam TypeId) (sz : outParam Nat) (bytes : outParam Nat) : Prop where
  und : P.underlying t = some (.slice e)
  inf : ∃ i z, P.info? e = some i ∧ i.zero = some z ∧ i.size = sz ∧ i.bytes = bytes ∧ z.cells.size = sz
  pos : 0 < sz

theorem slT_of {P : Program} {t e : TypeId} {sz bytes : Nat} {z : Value} (hu : P.underlying t = some (.slice e)) (h : (P.info? e).map (fun i => (i.zero, i.size, i.bytes)) = some (some z, sz, bytes)) (hz : z.cells.size = sz) (hp : 0 < sz) : SlT P t e sz bytes := by
  refine ⟨hu, ?_, hp⟩
  cases hi : P.info? e with
  | none => rw [hi] at h; cases h
  | some i =>
    rw [hi] at h
    simp only [Option.map_some, Option.some.injEq, Prod.mk.injEq] at h
    exact ⟨i, z, rfl, h.1, h.2.1, h.2.2, hz⟩
section
variable {c : Cx} {ops : Array Oper} {Q : Exit → Act → World → Prop} {ρ : Rg} {H : List As} {K : Kt} {t : TypeId} {pos : String} {af : Array Edge}
theorem one1_eq (v : Value) : v.oneCell' = one1 v := by cases v <;> rfl
/-- append of what lies in a block of the call's own (a literal's row) -/
theorem OpR.append1 {d : Tmp} {x y : Operand} {v : Value} {n m sz bytes b cap : Nat} {e ty ty' : TypeId} {xs C : List Value} {k : Value → Nat → List Value → List As} {k' : List Value → List As} {tys : Array TypeId} [T : SlT c.P ty e sz bytes] [O : InOwn H v n e sz xs k] [I : InH H b ty' C k']
    (hr : inR c.n x = true) (hr1 : inR c.n y = true) (hx : ev ρ x = v) (hy : ev ρ y = .slice (some ⟨b, 0, none⟩) m cap) (ht : tys = #[ty, ty]) (hC : Nat.beq C.length (m * sz) = true) (h1 : C.all one1 = true)
    (hn : n + m ≤ maxLen ∧ (n + m) * bytes ≤ 140737488355328) (kk : ∀ v', K (upd ρ d v') (k v' (n + m) (xs ++ C))) :
    OpR c ops Q ⟨some d, .call ⟨.builtin .append, #[x, y], tys⟩, t, pos, af, none⟩ ρ H K := fun w Kw hw hK => by
  subst ht
  simp only [wpO, Region.wanted, if_true]
  refine .inl ?_
  unfold Oper.wp
  have hx' := (acts_eval (ρ := ρ) hr).trans hx
  have hy' := (acts_eval (ρ := ρ) hr1).trans hy
  obtain ⟨H1, H2, rfl, hk⟩ := O.out
  obtain ⟨hown, hdis, _⟩ := hw.mid
  have hb := (InH.get (i := I) hw).1
  obtain ⟨i, z, hi, hz, hsz, hby, hzs⟩ := T.inf
  have hC' : C.length = m * sz := Nat.eq_of_beq_eq_true hC
  obtain ⟨v', w', hrun, ho', hg, _, hat⟩ := run_append_own_at (P := c.P) w 0 ty t e i z sz bytes T.und hi hz hsz hby hzs T.pos v n xs hown ⟨b, 0, none⟩ m cap C hC'
    (fun j u hj => by rw [add_mk, Nat.zero_add]; simp [World.cell?, hb, hj]) (fun u hu => by rw [one1_eq]; exact List.all_eq_true.1 h1 u hu) hn.1 hn.2 (Nat.zero_le _)
  have hrun' : (execOp (acts c.n ρ).eval ⟨some d, .call ⟨.builtin .append, #[x, y], #[ty, ty]⟩, t, pos, af, none⟩).run c.P w = .ok (.value v') w' := by
    generalize (acts c.n ρ).eval = ε at hx' hy' ⊢
    unfold execOp
    simp only [resolve, invoke, builtin, Sem.run_bind, Sem.run_pure, Result.andThen_ok, List.map_toArray, List.map_cons, List.map_nil, hx', hy', hrun]
  rw [hrun']
  simp only [Oper.upon, acts_put]
  refine hK _ _ _ (kk v') ?_
  rw [hk]
  have hB := hw.base.2
  have hlt := ho'.lt
  refine hw.turn ⟨hg.os, hg.tape, hg.output, hg.size, fun q hq => hg.block q (by omega) (fun he => ?_)⟩ ho' (fun q hq => ?_) (fun q hq hlt' => hg.block q hlt' (fun he => hq he.symm))
  · have := (hw.mid.2.2 q he.symm).1
    omega
  · rcases hat with h | h
    · exact .inl (by show v.ownBlock = some q; rw [← h]; exact hq)
    · have : v'.ownBlock = some q := hq
      rw [h] at this
      injection this with this
      subst this
      exact .inr ⟨Nat.le_refl _, (hlt _ h).2⟩

/-- a slice literal of one-cell elements, each at its place -/
theorem OpR.buildSlice {d : Tmp} {ty e : TypeId} {z : Value} {len sz : Nat} {parts : List (Nat × Operand)} {C : List Value} [E : ElS c.P ty e sz] [Z : TyZ c.P e z] (hr : (parts.all fun p => inR c.n p.2) = true)
    (hlen : Nat.ble (len * sz) 16777216 = true) (hC : Instr.fill (fun i => some (i * sz, sz)) ((Array.range (len * sz)).map (z.cells[· % z.cells.size]!)) (parts.map fun p => (p.1, ev ρ p.2)) = some ⟨C⟩)
    (k : ∀ b, K (upd ρ d (.slice (some ⟨b, 0, none⟩) len len)) (cell b e C :: H)) :
    OpR c ops Q ⟨some d, .buildSlice ty len parts.toArray, t, pos, af, none⟩ ρ H K := fun w Kw hw hK => by
  simp only [wpO, Region.wanted, if_true]
  refine .inl ?_
  unfold Oper.wp
  have hp : (parts.map fun p => (p.1, (acts c.n ρ).eval p.2)) = parts.map fun p => (p.1, ev ρ p.2) := by
    apply List.map_congr_left
    intro p hp
    rw [acts_eval (List.all_eq_true.1 hr p hp)]
  have hrun : (execOp (acts c.n ρ).eval ⟨some d, .buildSlice ty len parts.toArray, t, pos, af, none⟩).run c.P w = .ok (.value (.slice (some ⟨w.heap.size, 0, none⟩) len len)) (w.alloc (.cells ⟨C⟩ e)) := by
    generalize (acts c.n ρ).eval = ε at hp ⊢
    simp only [execOp]
    refine run_v ?_
    have hp' : ((parts.toArray.map fun p => (p.1, ε p.2)) : Array (Nat × Value)).toList = parts.map fun p => (p.1, ev ρ p.2) := by
      rw [← hp]; simp
    show (Instr.buildSlice ty len (parts.toArray.map fun p => (p.1, ε p.2))).run c.P w = _
    unfold Instr.buildSlice
    rw [hp']
    have hle := Nat.le_of_ble_eq_true hlen
    have hns : ¬ (len * sz > 2 ^ 24) := by omega
    by_cases h0 : len * sz = 0
    · simp [go_sem, E.und, E.size, h0, newRow] at hC ⊢
      simp [hC, go_sem]
    · simp [go_sem, E.und, E.size, hns, h0, Z.zero, newRow] at hC ⊢
      simp [hC, go_sem]
  rw [hrun]
  simp only [Oper.upon, acts_put]
  exact hK _ _ _ (k w.heap.size) (hw.push e C)
/-- numbered from k on, one by one -/
def seqIdx : Nat → List (Nat × Operand) → Bool
  | _, [] => true
  | k, (i, _) :: l => Nat.beq i k && seqIdx (k + 1) l
theorem foldl_set (vs : List Value) : ∀ (j : Nat) (pre mid post : List Value), mid.length = vs.length →
    (vs.zipIdx j).foldl (fun (cs : Array Value) (p : Value × Nat) => cs.setIfInBounds (pre.length - j + p.2) p.1) ⟨pre ++ mid ++ post⟩ = ⟨pre ++ vs ++ post⟩ ∨ pre.length < j := by
  induction vs with
  | nil => intro j pre mid post h; left; have : mid = [] := List.eq_nil_of_length_eq_zero (by simpa using h); subst this; simp
  | cons v vs ih =>
    intro j pre mid post h
    rcases Nat.lt_or_ge pre.length j with hj | hj
    · exact .inr hj
    left
    obtain ⟨m, mid, rfl⟩ : ∃ m mid', mid = m :: mid' := by cases mid <;> simp_all
    simp only [List.zipIdx_cons, List.foldl_cons]
    have e1 : (⟨pre ++ m :: mid ++ post⟩ : Array Value).setIfInBounds (pre.length - j + j) v = ⟨(pre ++ [v]) ++ mid ++ post⟩ := by
      rw [Nat.sub_add_cancel hj]
      apply Array.ext'
      simp
    rw [e1]
    have := ih (j + 1) (pre ++ [v]) mid post (by simpa using h)
    rcases this with h2 | h2
    · have e2 : (pre ++ [v]).length - (j + 1) = pre.length - j := by simp
      rw [e2] at h2
      rw [h2]; simp
    · simp at h2; omega
theorem fill_seq {sz : Nat} {ρ : Rg} : ∀ (parts : List (Nat × Operand)) (k : Nat) (pre post : List Value), seqIdx k parts = true → pre.length = k * sz → post.length = parts.length * sz → (∀ p ∈ parts, (ev ρ p.2).cells.size = sz) →
    Instr.fill (fun i => some (i * sz, sz)) ⟨pre ++ post⟩ (parts.map fun p => (p.1, ev ρ p.2)) = some ⟨pre ++ parts.flatMap fun p => (ev ρ p.2).cells.toList⟩ := by
  intro parts
  induction parts with
  | nil => intro k pre post _ _ h _; have : post = [] := List.eq_nil_of_length_eq_zero (by simpa using h); subst this; simp [Instr.fill]
  | cons p parts ih =>
    obtain ⟨i, o⟩ := p
    intro k pre post hi hpre hpost hc
    simp only [seqIdx, Bool.and_eq_true] at hi
    have hik := Nat.eq_of_beq_eq_true hi.1
    subst hik
    have hsz : (ev ρ o).cells.size = sz := hc (i, o) (by simp)
    simp only [List.map_cons, Instr.fill]
    have hcond : ((decide ((ev ρ o).cells.size ≠ sz) || decide (i * sz + (ev ρ o).cells.size > (⟨pre ++ post⟩ : Array Value).size)) = true) ↔ False := by
      simp [hsz, hpre, hpost]; rw [Nat.add_mul]; omega
    simp only [hcond, if_false]
    have hmid : ∃ mid post', post = mid ++ post' ∧ mid.length = sz ∧ post'.length = parts.length * sz := by
      refine ⟨post.take sz, post.drop sz, (List.take_append_drop _ _).symm, ?_, ?_⟩
      · simp [hpost, Nat.add_mul]
      · simp [hpost, Nat.add_mul]
    obtain ⟨mid, post', rfl, hm, hp⟩ := hmid
    have hf := foldl_set (ev ρ o).cells.toList 0 pre mid post' (by simp [hm, hsz])
    have hz : (ev ρ o).cells.zipIdx.foldl (fun (cs : Array Value) (p : Value × Nat) => cs.setIfInBounds (i * sz + p.2) p.1) ⟨pre ++ (mid ++ post')⟩ = ⟨(pre ++ (ev ρ o).cells.toList) ++ post'⟩ := by
      rcases hf with hf | hf
      · rw [← Array.foldl_toList, Array.toList_zipIdx, ← hpre]
        simpa using hf
      · omega
    rw [hz, ih (i + 1) (pre ++ (ev ρ o).cells.toList) post' hi.2 (by simp [hpre, hsz, Nat.add_mul]) hp (fun p hp => hc p (by simp [hp]))]
    simp
theorem zeros_len (z : Value) (m : Nat) : ((Array.range m).map (z.cells[· % z.cells.size]!)) = ⟨((Array.range m).map (z.cells[· % z.cells.size]!)).toList⟩ := rfl
theorem one1_cells {v : Value} (h : one1 v = true) : v.cells = #[v] := by cases v <;> first | rfl | (simp [one1] at h)
/-- a slice literal whose elements stand one behind the other -/
theorem OpR.bsN {d : Tmp} {ty e : TypeId} {len sz : Nat} {z : Value} {parts : List (Nat × Operand)} {C : List Value} [E : ElS c.P ty e sz] [Z : TyZ c.P e z] (hr : (parts.all fun p => inR c.n p.2) = true) (hi : seqIdx 0 parts = true) (hl : Nat.beq len parts.length = true)
    (hlen : Nat.ble (len * sz) 16777216 = true) (hc : ∀ p ∈ parts, (ev ρ p.2).cells.size = sz) (hC : (parts.flatMap fun p => (ev ρ p.2).cells.toList) = C)
    (k : ∀ b, K (upd ρ d (.slice (some ⟨b, 0, none⟩) len len)) (cell b e C :: H)) :
    OpR c ops Q ⟨some d, .buildSlice ty len parts.toArray, t, pos, af, none⟩ ρ H K := by
  have hl' := Nat.eq_of_beq_eq_true hl
  refine OpR.buildSlice (E := E) (Z := Z) hr hlen ?_ k
  rw [zeros_len]
  have := fill_seq (ρ := ρ) parts 0 [] ((Array.range (len * sz)).map (z.cells[· % z.cells.size]!)).toList hi (by simp) (by simp [hl']) hc
  simpa [hC] using this
theorem OpR.bs1 {d : Tmp} {ty e : TypeId} {len : Nat} {z : Value} {parts : List (Nat × Operand)} {C : List Value} [E : ElS c.P ty e 1] [Z : TyZ c.P e z] (hr : (parts.all fun p => inR c.n p.2) = true) (hi : seqIdx 0 parts = true) (hl : Nat.beq len parts.length = true)
    (hlen : Nat.ble len 16777216 = true) (hC : argsOf ρ (parts.map (·.2)) = C) (h1 : C.all one1 = true)
    (k : ∀ b, K (upd ρ d (.slice (some ⟨b, 0, none⟩) len len)) (cell b e C :: H)) :
    OpR c ops Q ⟨some d, .buildSlice ty len parts.toArray, t, pos, af, none⟩ ρ H K := by
  have key : ∀ l : List (Nat × Operand), (argsOf ρ (l.map (·.2))).all one1 = true → (∀ p ∈ l, (ev ρ p.2).cells.size = 1) ∧ (l.flatMap fun p => (ev ρ p.2).cells.toList) = argsOf ρ (l.map (·.2)) := by
    intro l
    induction l with
    | nil => intro _; simp [argsOf]
    | cons p l ih =>
      intro h
      simp only [List.map_cons, argsOf, List.all_cons, Bool.and_eq_true] at h
      obtain ⟨g1, g2⟩ := ih h.2
      have := one1_cells h.1
      refine ⟨fun q hq => ?_, ?_⟩
      · rcases List.mem_cons.1 hq with rfl | hq
        · simp [this]
        · exact g1 q hq
      · rw [List.flatMap_cons, g2, this]; rfl
  subst hC
  obtain ⟨k1, k2⟩ := key parts h1
  exact OpR.bsN (E := E) (Z := Z) hr hi hl (by simpa using hlen) k1 k2 k
end
end Go.Eng

namespace Go.Eng
open Go Go.RowKit IntWalk

/-- v reads in w as the list xs, each element laid out in sz cells as f says -/
structure Sl {α : Type} (f : α → List Value) (sz : Nat) (w : World) (v : Value) (xs : List α) : Prop where
  out : ∃ a cap, v = .slice a xs.length cap ∧ (0 < xs.length → ∃ b o, a = some ⟨b, o, none⟩ ∧ b < w.heap.size ∧ ∀ k (h : k < xs.length) i u, (f xs[k])[i]? = some u → w.cell? ⟨b, o + k * sz + i, none⟩ = some u)
  len : xs.length < 4611686018427387904
section
variable {α : Type} {f : α → List Value} {sz : Nat} {w w' : World} {v : Value} {xs : List α}
theorem Sl.below (h : Sl f sz w v xs) (hb : Below w.heap.size w w') : Sl f sz w' v xs := by
  obtain ⟨a, cap, rfl, hr⟩ := h.out
  refine ⟨⟨a, cap, rfl, fun h0 => ?_⟩, h.len⟩
  obtain ⟨b, o, rfl, hlt, hc⟩ := hr h0
  exact ⟨b, o, rfl, Nat.lt_of_lt_of_le hlt hb.size, fun k hk i u hu => (hb.cell (p := ⟨b, o + k * sz + i, none⟩) hlt).trans (hc k hk i u hu)⟩
theorem Sl.nil_ {c : Nat} : Sl f sz w (.slice none 0 c) ([] : List α) := ⟨⟨none, c, rfl, fun h => absurd h (by simp)⟩, by simp⟩
/-- what stands in the base's memory stands in every world of the call -/
theorem Sl.sat {w0 : World} {H : List As} (h : Sl f sz w0 v xs) (hs : Sat w0 w0.heap.size H w) : Sl f sz w v xs := h.below hs.base.1
/-- the row at a place -/
theorem Sl.row {a : Option Addr} {cap : Nat} (h : Sl f sz w (.slice a xs.length cap) xs) {k : Nat} {y : α} {l : List α} (hd : xs.drop k = y :: l) : ∃ b o, a = some ⟨b, o, none⟩ ∧ BRow w w.heap.size b (o + k * sz) (f y) := by
  have hk : k < xs.length := by
    apply Classical.byContradiction; intro hn
    rw [List.drop_eq_nil_of_le (by omega)] at hd; cases hd
  obtain ⟨a', cap', e, hr⟩ := h.out
  injection e with e1 e2 e3
  subst e1
  obtain ⟨b, o, rfl, hlt, hc⟩ := hr (by omega)
  have hy : xs[k] = y := by
    have := List.drop_eq_getElem_cons hk
    rw [hd] at this
    injection this with this
    exact this.symm
  refine ⟨b, o, rfl, ⟨fun _ => hlt, fun i u hu => hc k hk i u (by rw [hy]; exact hu)⟩⟩
/-- one cell an element, a block known whole -/
theorem Sl.cell1 {g : α → Value} {b cap : Nat} {t : TypeId} {fr : Nat × Nat} (h : w.heap[b]? = some (.cells ⟨xs.map g⟩ t fr)) (hl : Nat.blt xs.length 4611686018427387904 = true := by rfl) : Sl (fun x => [g x]) 1 w (.slice (some ⟨b, 0, none⟩) xs.length cap) xs := by
  refine ⟨⟨_, cap, rfl, fun _ => ⟨b, 0, rfl, ?_, fun k hk i u hu => ?_⟩⟩, by simpa [Nat.blt_eq] using hl⟩
  · rcases Nat.lt_or_ge b w.heap.size with h' | h'
    · exact h'
    · rw [Array.getElem?_eq_none h'] at h; cases h
  · cases i with
    | zero => simp at hu; subst hu; simp [World.cell?, h, hk]
    | succ i => simp at hu
end

/-- what a round over the places of a list hands on -/
def rgI (c : Cx) {α β : Type} (D : Nat → Bool) (ρ : Rg) (i : Tmp) (regs : β → List (Nat × Value)) (Hs : β → List As) (φ : List α → β → Prop) (xs : List α) (k : Nat) : Act → World → Prop :=
  lpI c D ρ (fun x : Nat × β => (i, .int .i64 (x.1 : Int)) :: regs x.2) (fun x => Hs x.2) (fun x => x.1 ≤ xs.length ∧ φ (xs.drop x.1) x.2) (fun x => xs.length - x.1) (xs.length - k)
/-- 'for i := range n' over the places of a list, as the translation lays it -/
theorem SC.rng {c : Cx} {R : Exit → Act → World → Prop} {s : List Fr} {ρ : Rg} {H : List As} {α β : Type} {id0 id1 r0 r1 : Nat} {i n cd ti : Tmp} {t1 t2 t3 t4 ty1 ty2 ty3 : TypeId} {p1 p2 p3 : String} {a1 a2 a3 : Array Edge} {body : Code}
    (xs : List α) (D : Nat → Bool) (regs : β → List (Nat × Value)) (Hs : β → List As) (φ : List α → β → Prop) (x0 : β)
    (h0 : φ xs x0) (hr : RegOK ρ (regs x0)) (hH : ∀ w, Sat c.w0 c.B H w → Sat c.w0 c.B (Hs x0) w)
    (round : ∀ k y l x j, xs.drop k = y :: l → k < xs.length → φ (y :: l) x →
      SC c R (.blk id1 :: .seq (.region r1 #[⟨some ti, .binOp .add t3 (.tmp i) (.const (.int .i64 1)) t4, ty2, p2, a2, none⟩, ⟨some i, .move (.tmp ti), ty3, p3, a3, none⟩] false) ::
        .lp (rgI c D ρ i regs Hs φ xs k) :: .blk id0 :: s) body
        (upd (upds ((i, .int .i64 (k : Int)) :: regs x) (hav D j ρ)) cd (.bool true)) (Hs x))
    (done : ∀ x j, φ [] x → SN c R s .normal (upd (upds ((i, .int .i64 (xs.length : Int)) :: regs x) (hav D j ρ)) cd (.bool false)) (Hs x))
    (hi : ρ i = .int .i64 ((0 : Nat) : Int) := by rfl) (hn : ρ n = .int .i64 (xs.length : Int) := by rfl) (hri : Nat.blt i c.n = true := by rfl) (hrn : Nat.blt n c.n = true := by rfl) (hrc : Nat.blt cd c.n = true := by rfl)
    (hDn : D n = false := by rfl) (hne : Nat.beq n i = false := by rfl) (hnr : ∀ x, (regs x).all (fun p => !Nat.beq n p.1) = true := by intro _; rfl) :
    SC c R (.blk id0 :: s) (.loop (.seq (.region r0 #[⟨some cd, .binOp .lss t1 (.tmp i) (.tmp n) t2, ty1, p1, a1, none⟩] false) (.seq (.cond (.tmp cd) .skip (.exit id0)) (.seq (.block id1 body)
      (.region r1 #[⟨some ti, .binOp .add t3 (.tmp i) (.const (.int .i64 1)) t4, ty2, p2, a2, none⟩, ⟨some i, .move (.tmp ti), ty3, p3, a3, none⟩] false))))) ρ H := by
  refine SC.loop (α := Nat × β) D (fun x => (i, .int .i64 (x.1 : Int)) :: regs x.2) (fun x => Hs x.2) (fun x => x.1 ≤ xs.length ∧ φ (xs.drop x.1) x.2) (fun x => xs.length - x.1) (0, x0) ⟨Nat.zero_le _, by simpa using h0⟩ hH ⟨hi, hr⟩ ?_
  rintro ⟨k, x⟩ j ⟨hk, hφ⟩
  have hupds : ∀ (l : List (Nat × Value)) (ρ' : Rg), l.all (fun p => !Nat.beq n p.1) = true → upds l ρ' n = ρ' n := by
    intro l
    induction l with
    | nil => intro ρ' _; rfl
    | cons p l ih =>
      intro ρ' h
      obtain ⟨d, v⟩ := p
      simp only [List.all_cons, Bool.and_eq_true, Bool.not_eq_true'] at h
      simp only [upds, upd, h.1, cond_false]
      exact ih ρ' h.2
  have hgn : (upds ((i, .int .i64 (k : Int)) :: regs x) (hav D j ρ)) n = .int .i64 (xs.length : Int) := by
    rw [hupds _ _ (by simp only [List.all_cons, hne, Bool.not_false, Bool.true_and]; exact hnr x)]
    simp only [hav, hDn, cond_false, hn]
  have hgi : (upds ((i, .int .i64 (k : Int)) :: regs x) (hav D j ρ)) i = .int .i64 (k : Int) := by simp [upds, upd]
  refine SC.seq (SC.region (SL.cons (OpR.val (v := .bool (decide ((k : Int) < xs.length))) (Val.cmp hri hrn hgi hgn rfl) (SL.nil (SN.seqN (SC.seq (SC.cond hrc (t := decide ((k : Int) < xs.length)) ?_ (fun ht => ?_) (fun ht => ?_)))))))) 
  · simp [ev, upd]
  · have hlt : k < xs.length := by have := of_decide_eq_true ht; omega
    refine SC.skip (SN.seqN (SC.seq (SC.block ?_)))
    obtain ⟨y, l, hd⟩ : ∃ y l, xs.drop k = y :: l := ⟨_, _, List.drop_eq_getElem_cons hlt⟩
    rw [ht]
    exact round k y l x j hd hlt (hd ▸ hφ)
  · have hge : k = xs.length := by have := of_decide_eq_false ht; omega
    subst hge
    refine SC.exit (SN.seqX (SN.lpX (SN.blkX ?_)))
    rw [ht]
    exact done x j (by simpa using hφ)
theorem Chn.st {D : Nat → Bool} {j ρ : Rg} {l : List (Nat × Value)} (h : keysIn D l = true) : Chn D ρ (Eng.upds l (Eng.hav D j ρ)) := Chn.upds Chn.hav l h
def dlSub (l m : List (Nat × Nat)) : Bool := l.all fun p => m.any fun q => Nat.ble q.1 p.1 && Nat.ble p.2 q.2
theorem Chn.hv {m l : List (Nat × Nat)} {j ρ ρ' : Rg} (hs : dlSub m l = true) (h : Chn (dl l) ρ ρ') : Chn (dl l) ρ (Eng.hav (dl m) j ρ') := fun i hi => by
  have : dl m i = false := by
    apply Bool.eq_false_iff.2
    intro hm
    obtain ⟨p, hp, hpi⟩ := List.any_eq_true.1 hm
    obtain ⟨q, hq, hqi⟩ := List.any_eq_true.1 (List.all_eq_true.1 hs p hp)
    simp only [Bool.and_eq_true, Nat.ble_eq, Nat.blt_eq] at hpi hqi
    have : dl l i = true := List.any_eq_true.2 ⟨q, hq, by simp only [Bool.and_eq_true, Nat.ble_eq, Nat.blt_eq]; omega⟩
    rw [this] at hi; cases hi
  simp only [Eng.hav, this, cond_false]
  exact h i hi
theorem Chn.us {D : Nat → Bool} {ρ ρ' : Rg} {l : List (Nat × Value)} (hk : keysIn D l = true) (h : Chn D ρ ρ') : Chn D ρ (Eng.upds l ρ') := Chn.upds h l hk
/-- the end of a round of 'SC.rng' -/
theorem SN.re {c : Cx} {R : Exit → Act → World → Prop} {s : List Fr} {ρ ρ' : Rg} {H : List As} {α β : Type} {i : Tmp} {D : Nat → Bool} {xs : List α} {regs : β → List (Nat × Value)} {Hs : β → List As} {φ : List α → β → Prop} {k : Nat} {y : α} {l : List α}
    (hd : xs.drop k = y :: l) (x' : β) (hφ : φ l x') (hH : ∀ w, Sat c.w0 c.B H w → Sat c.w0 c.B (Hs x') w) (hr : RegOK ρ' (regs x')) (hi : ρ' i = .int .i64 ((k : Int) + 1) := by rfl)
    (hc : Chn D ρ ρ' := by repeat (first | exact Chn.st rfl | refine Chn.upd rfl ?_ | refine Chn.us rfl ?_ | refine Chn.hv rfl ?_)) :
    SN c R (.lp (rgI c D ρ i regs Hs φ xs k) :: s) .normal ρ' H := by
  have hk : k < xs.length := by
    apply Classical.byContradiction; intro hn
    rw [List.drop_eq_nil_of_le (by omega)] at hd; cases hd
  have hd' : xs.drop (k + 1) = l := by
    have := List.drop_eq_getElem_cons hk
    rw [hd] at this
    injection this with _ this
    exact this.symm
  exact SN.lpN (k + 1, x') ⟨by show k + 1 ≤ _; omega, by show φ (xs.drop (k + 1)) x'; rw [hd']; exact hφ⟩ (by show xs.length - (k + 1) < xs.length - k; omega) hH ⟨hi, hr⟩ hc
end Go.Eng

namespace Go.Eng
open Go Go.RowKit IntWalk

/-- an integer type -/
class IntT (P : Program) (t : TypeId) (k : outParam IntKind) : Prop where
  und : ∀ w, (underlying t).run P w = .ok (.int k) w
/-- a struct type and its fields' places -/
class StrT (P : Program) (t : TypeId) (pl : outParam (List (Nat × Nat))) : Prop where
  out : ∃ fs : Array Field, (∀ w, (underlying t).run P w = .ok (.struct fs) w) ∧ ∀ w, (fs.mapM fun f => do pure (f.offset, ← sizeOf f.type) : Sem (Array (Nat × Nat))).run P w = .ok pl.toArray w

section
variable {P : Program} {w : World} {ε : Operand → Value} {t : TypeId} {pos : String} {af : Array Edge} {dst : Option Tmp} {gd : Option (Nat × Bool)}
theorem bits_u64 {P : Program} {w : World} (op : BinOp) (a b r : UInt64) (h : op = .and ∧ r = a &&& b ∨ op = .or ∧ r = a ||| b ∨ op = .xor ∧ r = a ^^^ b) : (Op.intBits op .u64 (a.toNat : Int) b.toNat).run P w = .ok (.int .u64 (r.toNat : Int)) w := by
  have e : ∀ x : UInt64, BitVec.ofInt 64 (x.toNat : Int) = x.toBitVec := fun x => by
    apply BitVec.eq_of_toNat_eq
    have := x.toNat_lt
    simp only [BitVec.toNat_ofInt]
    rw [show x.toBitVec.toNat = x.toNat from rfl]
    omega
  have hw : ∀ x : UInt64, IntKind.u64.wrap (x.toNat : Int) = x.toNat := fun x => by have := x.toNat_lt; exact u64_in _ (by omega)
  have hb : IntKind.u64.bits = 64 := rfl
  rcases h with ⟨rfl, rfl⟩ | ⟨rfl, rfl⟩ | ⟨rfl, rfl⟩
  · show Sem.run P (pure (Value.int .u64 (IntKind.u64.wrap (((BitVec.ofInt 64 (a.toNat : Int)) &&& (BitVec.ofInt 64 (b.toNat : Int))).toNat : Int)))) w = _
    rw [e, e, show (a.toBitVec &&& b.toBitVec).toNat = (a &&& b).toNat from rfl, hw]; rfl
  · show Sem.run P (pure (Value.int .u64 (IntKind.u64.wrap (((BitVec.ofInt 64 (a.toNat : Int)) ||| (BitVec.ofInt 64 (b.toNat : Int))).toNat : Int)))) w = _
    rw [e, e, show (a.toBitVec ||| b.toBitVec).toNat = (a ||| b).toNat from rfl, hw]; rfl
  · show Sem.run P (pure (Value.int .u64 (IntKind.u64.wrap (((BitVec.ofInt 64 (a.toNat : Int)) ^^^ (BitVec.ofInt 64 (b.toNat : Int))).toNat : Int)))) w = _
    rw [e, e, show (a.toBitVec ^^^ b.toBitVec).toNat = (a ^^^ b).toNat from rfl, hw]; rfl
theorem bits_u8 {P : Program} {w : World} (op : BinOp) (a b r : UInt8) (h : op = .and ∧ r = a &&& b ∨ op = .or ∧ r = a ||| b ∨ op = .xor ∧ r = a ^^^ b) : (Op.intBits op .u8 (a.toNat : Int) b.toNat).run P w = .ok (.int .u8 (r.toNat : Int)) w := by
  have e : ∀ x : UInt8, BitVec.ofInt 8 (x.toNat : Int) = x.toBitVec := fun x => by
    apply BitVec.eq_of_toNat_eq
    have := x.toNat_lt
    simp only [BitVec.toNat_ofInt]
    rw [show x.toBitVec.toNat = x.toNat from rfl]
    omega
  have hw : ∀ x : UInt8, IntKind.u8.wrap (x.toNat : Int) = x.toNat := fun x => by have := x.toNat_lt; exact u8_in _ (by omega)
  rcases h with ⟨rfl, rfl⟩ | ⟨rfl, rfl⟩ | ⟨rfl, rfl⟩
  · show Sem.run P (pure (Value.int .u8 (IntKind.u8.wrap (((BitVec.ofInt 8 (a.toNat : Int)) &&& (BitVec.ofInt 8 (b.toNat : Int))).toNat : Int)))) w = _
    rw [e, e, show (a.toBitVec &&& b.toBitVec).toNat = (a &&& b).toNat from rfl, hw]; rfl
  · show Sem.run P (pure (Value.int .u8 (IntKind.u8.wrap (((BitVec.ofInt 8 (a.toNat : Int)) ||| (BitVec.ofInt 8 (b.toNat : Int))).toNat : Int)))) w = _
    rw [e, e, show (a.toBitVec ||| b.toBitVec).toNat = (a ||| b).toNat from rfl, hw]; rfl
  · show Sem.run P (pure (Value.int .u8 (IntKind.u8.wrap (((BitVec.ofInt 8 (a.toNat : Int)) ^^^ (BitVec.ofInt 8 (b.toNat : Int))).toNat : Int)))) w = _
    rw [e, e, show (a.toBitVec ^^^ b.toBitVec).toNat = (a ^^^ b).toNat from rfl, hw]; rfl
theorem run_shift_gen {op : BinOp} {t1 t2 : TypeId} {x y : Operand} {k yk : IntKind} {a b : Int} {r : Value} (ho : op = .shl ∨ op = .shr) (hx : ε x = .int k a) (hy : ε y = .int yk b) (hb : (Op.shift op k a yk b).run P w = .ok r w) :
    (execOp ε ⟨dst, .binOp op t1 x y t2, t, pos, af, gd⟩).run P w = .ok (.value r) w := by
  have hg : eqGuard op t1 x y (.int k a) (.int yk b) = pure () := by
    unfold eqGuard
    rcases ho with rfl | rfl <;> rfl
  have h2 : binOp op t1 (.int k a) (.int yk b) = Op.shift op k a yk b := by
    rcases ho with rfl | rfl <;> rfl
  unfold execOp
  simp only [hx, hy, hg, h2]
  refine run_v ?_
  simpa using hb
end

def arI : BinOp → UInt64 → UInt64 → Option UInt64
  | .and, a, b => some (a &&& b)
  | .or, a, b => some (a ||| b)
  | .xor, a, b => some (a ^^^ b)
  | _, _, _ => none
def arI8 : BinOp → UInt8 → UInt8 → Option UInt8
  | .and, a, b => some (a &&& b)
  | .or, a, b => some (a ||| b)
  | .xor, a, b => some (a ^^^ b)
  | _, _, _ => none
def cmp8 : BinOp → UInt8 → UInt8 → Option Bool
  | .eql, a, b => some (decide (a = b))
  | .neq, a, b => some (!decide (a = b))
  | .lss, a, b => some (decide (a < b))
  | .leq, a, b => some (decide (a ≤ b))
  | .gtr, a, b => some (decide (b < a))
  | .geq, a, b => some (decide (b ≤ a))
  | _, _, _ => none
theorem cmp8_of {op : BinOp} {a b : UInt8} {r : Bool} (h : cmp8 op a b = some r) : cmpOf op (a.toNat : Int) b.toNat = some r := by
  have hj : ((a.toNat : Int) = b.toNat) ↔ a = b := by rw [Int.natCast_inj, UInt8.toNat_inj]
  cases op <;> simp only [cmp8, cmpOf, Option.some.injEq, reduceCtorEq] at h ⊢ <;> subst h <;> first
    | (simp only [hj])
    | (congr 1; simp only [UInt8.lt_iff_toNat_lt, Int.ofNat_lt])
    | (congr 1; simp only [UInt8.le_iff_toNat_le, Int.ofNat_le])

section
variable {c : Cx} {ops : Array Oper} {Q : Exit → Act → World → Prop} {ρ : Rg} {H : List As} {K : Kt} {t : TypeId} {pos : String} {af : Array Edge} {dst : Option Tmp} {gd : Option (Nat × Bool)}
theorem Val.bitU {op : BinOp} {x y : Operand} {a b r : UInt64} {t1 t2 : TypeId} (hr : inR c.n x = true) (hr1 : inR c.n y = true) (hx : ev ρ x = u64 a) (hy : ev ρ y = u64 b) (he : arI op a b = some r) :
    Val c ρ H ⟨dst, .binOp op t1 x y t2, t, pos, af, gd⟩ (u64 r) := fun w _ => by
  rw [u64_eq]
  refine run_bin_int ((acts_eval hr).trans (hx.trans (u64_eq a))) ((acts_eval hr1).trans (hy.trans (u64_eq b))) ?_
  cases op <;> simp only [arI, Option.some.injEq, reduceCtorEq] at he <;> subst he
  · exact bits_u64 .and a b _ (.inl ⟨rfl, rfl⟩)
  · exact bits_u64 .or a b _ (.inr (.inl ⟨rfl, rfl⟩))
  · exact bits_u64 .xor a b _ (.inr (.inr ⟨rfl, rfl⟩))
theorem Val.bit8 {op : BinOp} {x y : Operand} {a b r : UInt8} {t1 t2 : TypeId} (hr : inR c.n x = true) (hr1 : inR c.n y = true) (hx : ev ρ x = u8 a) (hy : ev ρ y = u8 b) (he : arI8 op a b = some r) :
    Val c ρ H ⟨dst, .binOp op t1 x y t2, t, pos, af, gd⟩ (u8 r) := fun w _ => by
  rw [u8_eq]
  refine run_bin_int ((acts_eval hr).trans (hx.trans (u8_eq a))) ((acts_eval hr1).trans (hy.trans (u8_eq b))) ?_
  cases op <;> simp only [arI8, Option.some.injEq, reduceCtorEq] at he <;> subst he
  · exact bits_u8 .and a b _ (.inl ⟨rfl, rfl⟩)
  · exact bits_u8 .or a b _ (.inr (.inl ⟨rfl, rfl⟩))
  · exact bits_u8 .xor a b _ (.inr (.inr ⟨rfl, rfl⟩))
theorem Val.cmp8 {op : BinOp} {x y : Operand} {a b : UInt8} {t1 t2 : TypeId} {r : Bool} (hr : inR c.n x = true) (hr1 : inR c.n y = true) (hx : ev ρ x = u8 a) (hy : ev ρ y = u8 b) (he : Eng.cmp8 op a b = some r) :
    Val c ρ H ⟨dst, .binOp op t1 x y t2, t, pos, af, gd⟩ (.bool r) := Val.cmp hr hr1 (hx.trans (u8_eq a)) (hy.trans (u8_eq b)) (cmp8_of he)
/-- shifts by less than 64 -/
theorem Val.shrU {x y : Operand} {a s : UInt64} {t1 t2 : TypeId} (hr : inR c.n x = true) (hr1 : inR c.n y = true) (hx : ev ρ x = u64 a) (hy : ev ρ y = u64 s) (hs : s < 64) :
    Val c ρ H ⟨dst, .binOp .shr t1 x y t2, t, pos, af, gd⟩ (u64 (a >>> s)) := fun w _ => by
  rw [u64_eq]
  refine run_shift_gen (.inr rfl) ((acts_eval hr).trans (hx.trans (u64_eq a))) ((acts_eval hr1).trans (hy.trans (u64_eq s))) ?_
  have hs' : s.toNat < 64 := by simpa [UInt64.lt_iff_toNat_lt] using hs
  have e : ((a >>> s).toNat : Int) = (a.toNat : Int).fdiv (2 ^ s.toNat) := by
    rw [UInt64.toNat_shiftRight, Nat.shiftRight_eq_div_pow, Nat.mod_eq_of_lt hs', Int.fdiv_eq_ediv_of_nonneg _ (by exact Int.pow_nonneg (by omega))]
    simp
  rw [e]
  unfold Op.shift
  rw [if_neg (by omega)]
  have : min (s.toNat : Int).toNat IntKind.u64.bits = s.toNat := by
    show min (s.toNat : Int).toNat 64 = _
    simp; omega
  simp only [this]
  rfl
theorem Val.shlU {x y : Operand} {a s : UInt64} {t1 t2 : TypeId} (hr : inR c.n x = true) (hr1 : inR c.n y = true) (hx : ev ρ x = u64 a) (hy : ev ρ y = u64 s) (hs : s < 64) :
    Val c ρ H ⟨dst, .binOp .shl t1 x y t2, t, pos, af, gd⟩ (u64 (a <<< s)) := fun w _ => by
  rw [u64_eq]
  refine run_shift_gen (.inl rfl) ((acts_eval hr).trans (hx.trans (u64_eq a))) ((acts_eval hr1).trans (hy.trans (u64_eq s))) ?_
  have hs' : s.toNat < 64 := by simpa [UInt64.lt_iff_toNat_lt] using hs
  have e : ((a <<< s).toNat : Int) = IntKind.u64.wrap ((a.toNat : Int) * 2 ^ s.toNat) := by
    rw [UInt64.toNat_shiftLeft, Nat.shiftLeft_eq, Nat.mod_eq_of_lt hs', wrap_u64]
    simp
  rw [e]
  unfold Op.shift
  rw [if_neg (by omega)]
  have : min (s.toNat : Int).toNat IntKind.u64.bits = s.toNat := by
    show min (s.toNat : Int).toNat 64 = _
    simp; omega
  simp only [this]
  rfl
theorem run_convII {P : Program} {w : World} {s d : TypeId} {k k' : IntKind} {n : Int} [S : IntT P s k] [D : IntT P d k'] : (convert s d (.int k n)).run P w = .ok (.int k' (k'.wrap n)) w := by
  unfold convert
  rw [Sem.run_bind, S.und]
  simp only [Result.andThen_ok]
  rw [Sem.run_bind, D.und]
  rfl
theorem ofInt_toNat (n : Int) : ((UInt64.ofInt n).toNat : Int) = n % 18446744073709551616 := by
  rw [UInt64.ofInt]
  simp [UInt64.toNat_ofNat']
  omega
/-- uint64(n) -/
theorem Val.convIU {x : Operand} {s d : TypeId} {n : Int} [S : IntT c.P s .i64] [D : IntT c.P d .u64] (hr : inR c.n x = true) (hx : ev ρ x = .int .i64 n) : Val c ρ H ⟨dst, .convert s d x, t, pos, af, gd⟩ (u64 (UInt64.ofInt n)) := fun w _ => by
  have h := (acts_eval (n := c.n) (ρ := ρ) hr).trans hx
  rw [u64_eq, ofInt_toNat, ← wrap_u64]
  generalize (acts c.n ρ).eval = ε at h ⊢
  simp only [execOp, h]
  exact run_v run_convII
/-- int(a) -/
theorem Val.convUI {x : Operand} {s d : TypeId} {a : UInt64} [S : IntT c.P s .u64] [D : IntT c.P d .i64] (hr : inR c.n x = true) (hx : ev ρ x = u64 a) : Val c ρ H ⟨dst, .convert s d x, t, pos, af, gd⟩ (.int .i64 (IntKind.i64.wrap a.toNat)) := fun w _ => by
  have h := (acts_eval (n := c.n) (ρ := ρ) hr).trans (hx.trans (u64_eq a))
  generalize (acts c.n ρ).eval = ε at h ⊢
  simp only [execOp, h]
  exact run_v run_convII
theorem Val.convUU {x : Operand} {s d : TypeId} {a : UInt64} [S : IntT c.P s .u64] [D : IntT c.P d .u64] (hr : inR c.n x = true) (hx : ev ρ x = u64 a) : Val c ρ H ⟨dst, .convert s d x, t, pos, af, gd⟩ (u64 a) := fun w _ => by
  have h := (acts_eval (n := c.n) (ρ := ρ) hr).trans (hx.trans (u64_eq a))
  rw [u64_eq]
  generalize (acts c.n ρ).eval = ε at h ⊢
  simp only [execOp, h]
  have := a.toNat_lt
  have e := u64_in (a.toNat : Int) (by omega)
  have := run_convII (P := c.P) (w := w) (s := s) (d := d) (k := .u64) (k' := .u64) (n := a.toNat)
  rw [e] at this
  exact run_v this
theorem Val.convII {x : Operand} {s d : TypeId} {n : Int} [S : IntT c.P s .i64] [D : IntT c.P d .i64] (hr : inR c.n x = true) (hx : ev ρ x = .int .i64 n) (hn : IntKind.i64.wrap n = n) : Val c ρ H ⟨dst, .convert s d x, t, pos, af, gd⟩ (.int .i64 n) := fun w _ => by
  have h := (acts_eval (n := c.n) (ρ := ρ) hr).trans hx
  generalize (acts c.n ρ).eval = ε at h ⊢
  simp only [execOp, h]
  have := run_convII (P := c.P) (w := w) (s := s) (d := d) (k := .i64) (k' := .i64) (n := n)
  rw [hn] at this
  exact run_v this

/-- min, max of two -/
theorem run_min2 {P : Program} {w : World} {k : IntKind} {a b : Int} {ty : TypeId} {tys : Array TypeId} : (Builtin.min_ tys ty #[.int k a, .int k b]).run P w = .ok (.int k (if b < a then b else a)) w := by
  simp [Builtin.min_, Builtin.min2, go_sem]
theorem run_max2 {P : Program} {w : World} {k : IntKind} {a b : Int} {ty : TypeId} {tys : Array TypeId} : (Builtin.max_ tys ty #[.int k a, .int k b]).run P w = .ok (.int k (if a < b then b else a)) w := by
  simp [Builtin.max_, Builtin.max2, go_sem]
theorem Val.minI {x y : Operand} {a b : Int} {tys : Array TypeId} (hr : inR c.n x = true) (hr1 : inR c.n y = true) (hx : ev ρ x = .int .i64 a) (hy : ev ρ y = .int .i64 b) :
    Val c ρ H ⟨dst, .call ⟨.builtin .min, #[x, y], tys⟩, t, pos, af, gd⟩ (.int .i64 (if b < a then b else a)) := fun w _ => by
  have h := (acts_eval (n := c.n) (ρ := ρ) hr).trans hx
  have h1 := (acts_eval (n := c.n) (ρ := ρ) hr1).trans hy
  generalize (acts c.n ρ).eval = ε at h h1 ⊢
  unfold execOp
  simp only [resolve, invoke, builtin, Sem.run_bind, Sem.run_pure, Result.andThen_ok, List.map_toArray, List.map_cons, List.map_nil, h, h1, run_min2]
theorem Val.maxI {x y : Operand} {a b : Int} {tys : Array TypeId} (hr : inR c.n x = true) (hr1 : inR c.n y = true) (hx : ev ρ x = .int .i64 a) (hy : ev ρ y = .int .i64 b) :
    Val c ρ H ⟨dst, .call ⟨.builtin .max, #[x, y], tys⟩, t, pos, af, gd⟩ (.int .i64 (if a < b then b else a)) := fun w _ => by
  have h := (acts_eval (n := c.n) (ρ := ρ) hr).trans hx
  have h1 := (acts_eval (n := c.n) (ρ := ρ) hr1).trans hy
  generalize (acts c.n ρ).eval = ε at h h1 ⊢
  unfold execOp
  simp only [resolve, invoke, builtin, Sem.run_bind, Sem.run_pure, Result.andThen_ok, List.map_toArray, List.map_cons, List.map_nil, h, h1, run_max2]
theorem Val.minU {x y : Operand} {a b : UInt64} {tys : Array TypeId} (hr : inR c.n x = true) (hr1 : inR c.n y = true) (hx : ev ρ x = u64 a) (hy : ev ρ y = u64 b) :
    Val c ρ H ⟨dst, .call ⟨.builtin .min, #[x, y], tys⟩, t, pos, af, gd⟩ (u64 (if b < a then b else a)) := fun w _ => by
  have h := (acts_eval (n := c.n) (ρ := ρ) hr).trans (hx.trans (u64_eq a))
  have h1 := (acts_eval (n := c.n) (ρ := ρ) hr1).trans (hy.trans (u64_eq b))
  have e : u64 (if b < a then b else a) = .int .u64 (if (b.toNat : Int) < a.toNat then b.toNat else a.toNat) := by
    rw [u64_eq]; simp only [UInt64.lt_iff_toNat_lt, Int.ofNat_lt]; split <;> rfl
  rw [e]
  generalize (acts c.n ρ).eval = ε at h h1 ⊢
  unfold execOp
  simp only [resolve, invoke, builtin, Sem.run_bind, Sem.run_pure, Result.andThen_ok, List.map_toArray, List.map_cons, List.map_nil, h, h1, run_min2]
theorem Val.maxU {x y : Operand} {a b : UInt64} {tys : Array TypeId} (hr : inR c.n x = true) (hr1 : inR c.n y = true) (hx : ev ρ x = u64 a) (hy : ev ρ y = u64 b) :
    Val c ρ H ⟨dst, .call ⟨.builtin .max, #[x, y], tys⟩, t, pos, af, gd⟩ (u64 (if a < b then b else a)) := fun w _ => by
  have h := (acts_eval (n := c.n) (ρ := ρ) hr).trans (hx.trans (u64_eq a))
  have h1 := (acts_eval (n := c.n) (ρ := ρ) hr1).trans (hy.trans (u64_eq b))
  have e : u64 (if a < b then b else a) = .int .u64 (if (a.toNat : Int) < b.toNat then b.toNat else a.toNat) := by
    rw [u64_eq]; simp only [UInt64.lt_iff_toNat_lt, Int.ofNat_lt]; split <;> rfl
  rw [e]
  generalize (acts c.n ρ).eval = ε at h h1 ⊢
  unfold execOp
  simp only [resolve, invoke, builtin, Sem.run_bind, Sem.run_pure, Result.andThen_ok, List.map_toArray, List.map_cons, List.map_nil, h, h1, run_max2]
end
end Go.Eng

namespace Go.Eng
open Go Go.RowKit IntWalk

/-! ### struct literals -/
def lay (pl : List (Nat × Nat)) (ρ : Rg) : List Value → List (Nat × Operand) → List Value
  | C, [] => C
  | C, (i, o) :: l => lay pl ρ (setL C (pl.getD i (0, 0)).1 (ev ρ o).cells.toList) l
def layOk (pl : List (Nat × Nat)) (ρ : Rg) (n : Nat) : List (Nat × Operand) → Bool
  | [] => true
  | (i, o) :: l => (match pl[i]? with | some (off, sz) => Nat.beq (ev ρ o).cells.size sz && Nat.ble (off + sz) n | none => false) && layOk pl ρ n l
theorem foldl_setL (vs : List Value) : ∀ (j off : Nat) (C : List Value), (vs.zipIdx j).foldl (fun (cs : Array Value) (p : Value × Nat) => cs.setIfInBounds (off + p.2) p.1) ⟨C⟩ = ⟨setL C (off + j) vs⟩ := by
  induction vs with
  | nil => intro j off C; rfl
  | cons v vs ih =>
    intro j off C
    simp only [List.zipIdx_cons, List.foldl_cons, setL]
    have : (⟨C⟩ : Array Value).setIfInBounds (off + j) v = ⟨C.set (off + j) v⟩ := by apply Array.ext'; simp
    rw [this, ih (j + 1) off, Nat.add_assoc]
theorem fill_lay {pl : List (Nat × Nat)} {ρ : Rg} : ∀ (parts : List (Nat × Operand)) (C : List Value), layOk pl ρ C.length parts = true →
    Instr.fill (fun i => pl[i]?) ⟨C⟩ (parts.map fun p => (p.1, ev ρ p.2)) = some ⟨lay pl ρ C parts⟩ := by
  intro parts
  induction parts with
  | nil => intro C _; rfl
  | cons p parts ih =>
    obtain ⟨i, o⟩ := p
    intro C h
    simp only [layOk, Bool.and_eq_true] at h
    simp only [List.map_cons, Instr.fill, lay]
    cases hp : pl[i]? with
    | none => rw [hp] at h; exact absurd h.1 (by simp)
    | some q =>
      obtain ⟨off, sz⟩ := q
      rw [hp] at h
      simp only [Bool.and_eq_true] at h
      have h1 := Nat.eq_of_beq_eq_true h.1.1
      have h2 := Nat.le_of_ble_eq_true h.1.2
      have hcond : ((decide ((ev ρ o).cells.size ≠ sz) || decide (off + (ev ρ o).cells.size > (⟨C⟩ : Array Value).size)) = true) ↔ False := by
        simp [h1]; omega
      simp only [hcond, if_false]
      have hf := foldl_setL (ev ρ o).cells.toList 0 off C
      have hz : (ev ρ o).cells.zipIdx.foldl (fun (cs : Array Value) (p : Value × Nat) => cs.setIfInBounds (off + p.2) p.1) ⟨C⟩ = ⟨setL C off (ev ρ o).cells.toList⟩ := by
        rw [← Array.foldl_toList, Array.toList_zipIdx]
        simpa using hf
      rw [hz, ih _ (by rw [setL_length]; exact h.2)]
      simp [hp]
section
variable {c : Cx} {R : Exit → Act → World → Prop} {s : List Fr} {ops : Array Oper} {Q : Exit → Act → World → Prop} {ρ : Rg} {H : List As} {K : Kt} {t : TypeId} {pos : String} {af : Array Edge} {dst : Option Tmp} {gd : Option (Nat × Bool)} {fn : Func}
theorem Val.build {ty : TypeId} {pl : List (Nat × Nat)} {Z : List Value} {parts : List (Nat × Operand)} [S : StrT c.P ty pl] [T : TyZ c.P ty (.agg ⟨Z⟩)] (hr : (parts.all fun p => inR c.n p.2) = true) (hok : layOk pl ρ Z.length parts = true) :
    Val c ρ H ⟨dst, .build ty parts.toArray, t, pos, af, gd⟩ (.agg ⟨lay pl ρ Z parts⟩) := fun w _ => by
  have hp : (parts.map fun p => (p.1, (acts c.n ρ).eval p.2)) = parts.map fun p => (p.1, ev ρ p.2) := by
    apply List.map_congr_left
    intro p hp
    rw [acts_eval (List.all_eq_true.1 hr p hp)]
  generalize (acts c.n ρ).eval = ε at hp ⊢
  simp only [execOp]
  refine run_v ?_
  have hp' : ((parts.toArray.map fun p => (p.1, ε p.2)) : Array (Nat × Value)).toList = parts.map fun p => (p.1, ev ρ p.2) := by
    rw [← hp]; simp
  show (Instr.build ty (parts.toArray.map fun p => (p.1, ε p.2))).run c.P w = _
  unfold Instr.build
  rw [Sem.run_bind, T.zero]
  simp only [Result.andThen_ok]
  obtain ⟨fs, hund, hpl⟩ := S.out
  rw [Sem.run_bind, hund]
  simp only [Result.andThen_ok]
  rw [Sem.run_bind, hpl]
  simp only [Result.andThen_ok]
  rw [hp', show (fun i => pl.toArray[i]?) = fun i => pl[i]? from funext fun i => by simp]
  have := fill_lay (pl := pl) (ρ := ρ) parts Z hok
  show Sem.run c.P (match Instr.fill (fun i => pl[i]?) (Value.agg ⟨Z⟩).cells (parts.map fun p => (p.1, ev ρ p.2)) with | some cells => pure (Value.agg cells) | x => _) w = _
  rw [show (Value.agg ⟨Z⟩).cells = (⟨Z⟩ : Array Value) from rfl, this]
  rfl
/-- what a result's place holds -/
def rvSem (tmps : Array Value) : ResultVar → Sem Value
  | .tmp t => pure (tmps.getD t undef)
  | .cell a t => do loadVar t (← asAddr (tmps.getD a undef))
structure ResV (c : Cx) (ρ : Rg) (H : List As) (rv : ResultVar) (v : Value) : Prop where
  run : ∀ w, Sat c.w0 c.B H w → (rvSem (acts c.n ρ).tmps rv).run c.P w = .ok v w
theorem ResV.tmp {t' : Tmp} {v : Value} (hr : Nat.blt t' c.n = true) (hv : ρ t' = v) : ResV c ρ H (.tmp t') v := ⟨fun w _ => by
  simp only [rvSem]
  rw [acts_getD _ _ _ (by simpa [Nat.blt_eq] using hr), hv]; rfl⟩
theorem ResV.cell {t' : Tmp} {ty ty' : TypeId} {b n : Nat} {C : List Value} {k : List Value → List As} [T : TyS c.P ty n true] (hr : Nat.blt t' c.n = true) (hv : ρ t' = ptr b 0 0) (I : InH H b ty' C k) (hl : Nat.beq C.length n = true) : ResV c ρ H (.cell t' ty) (.agg ⟨C⟩) := ⟨fun w hw => by
  have hn := Nat.eq_of_beq_eq_true hl
  have hb := (InH.get (i := I) hw).1
  simp only [rvSem]
  rw [acts_getD _ _ _ (by simpa [Nat.blt_eq] using hr), hv, ptr_eq]
  have hload := run_loadAgg (T := T) (o := 0) hb (by omega)
  rw [Sem.run_bind]
  show Sem.run c.P (loadVar ty ⟨b, 0, none⟩) w = _
  rw [hload, List.drop_zero, ← hn, List.take_length]⟩
theorem ResV.cell1 {t' : Tmp} {ty ty' : TypeId} {b n : Nat} {v : Value} {k : List Value → List As} [T : TyS c.P ty n false] (hr : Nat.blt t' c.n = true) (hv : ρ t' = ptr b 0 0) (I : InH H b ty' [v] k) : ResV c ρ H (.cell t' ty) v := ⟨fun w hw => by
  have hb := (InH.get (i := I) hw).1
  simp only [rvSem]
  rw [acts_getD _ _ _ (by simpa [Nat.blt_eq] using hr), hv, ptr_eq]
  have hc : w.cell? ⟨b, 0, none⟩ = some v := by simp [World.cell?, hb]
  rw [Sem.run_bind]
  show Sem.run c.P (loadVar ty ⟨b, 0, none⟩) w = _
  exact run_load1 (T := T) hc⟩
theorem results_eq (fn : Func) (tmps : Array Value) : results fn tmps = (do let vs ← fn.results.mapM (rvSem tmps); pure (if h : vs.size = 1 then vs[0] else .tuple vs)) := by
  unfold results
  rfl
theorem SN.r0 {R : Ending → World → Prop} (hres : fn.results = #[]) (h : ∀ w, Sat c.w0 c.B H w → R (.returned (.tuple #[])) w) : SN c (bodyPost c.P fn R) [] .ret ρ H := fun w hw =>
  ⟨rfl, .tuple #[], results_none hres _ _ _, h w hw⟩
theorem SN.r1 {R : Ending → World → Prop} {a : ResultVar} {u : Value} (hres : fn.results = #[a]) (ha : ResV c ρ H a u) (h : ∀ w, Sat c.w0 c.B H w → R (.returned u) w) : SN c (bodyPost c.P fn R) [] .ret ρ H := fun w hw => by
  refine ⟨rfl, u, ?_, h w hw⟩
  rw [results_eq, hres]
  simp [go_sem, ha.run w hw]
theorem SN.r2 {R : Ending → World → Prop} {a b : ResultVar} {u v : Value} (hres : fn.results = #[a, b]) (ha : ResV c ρ H a u) (hb : ResV c ρ H b v) (h : ∀ w, Sat c.w0 c.B H w → R (.returned (.tuple #[u, v])) w) : SN c (bodyPost c.P fn R) [] .ret ρ H := fun w hw => by
  refine ⟨rfl, .tuple #[u, v], ?_, h w hw⟩
  rw [results_eq, hres]
  simp [go_sem, ha.run w hw, hb.run w hw]
theorem SN.r3 {R : Ending → World → Prop} {a b d : ResultVar} {u v x : Value} (hres : fn.results = #[a, b, d]) (ha : ResV c ρ H a u) (hb : ResV c ρ H b v) (hd : ResV c ρ H d x) (h : ∀ w, Sat c.w0 c.B H w → R (.returned (.tuple #[u, v, x])) w) : SN c (bodyPost c.P fn R) [] .ret ρ H := fun w hw => by
  refine ⟨rfl, .tuple #[u, v, x], ?_, h w hw⟩
  rw [results_eq, hres]
  simp [go_sem, ha.run w hw, hb.run w hw, hd.run w hw]
end
end Go.Eng

namespace Go.Eng
open Go Go.RowKit IntWalk

/-! ### fresh rows: results, reading, appending -/
/-- v is a slice of m elements, sz cells each, that hold C -/
structure Rd (w : World) (v : Value) (m sz : Nat) (C : List Value) : Prop where
  out : ∃ a cap, v = .slice a m cap ∧ C.length = m * sz ∧ (a = none → m = 0) ∧ ∀ p, a = some p → ∀ j u, C[j]? = some u → w.cell? (p.add j) = some u
/-- a call whose result is a new row of its own -/
def PureS (P : Program) (f : FuncId) (args : Array Value) (n : Nat) (e : TypeId) (sz : Nat) (C : List Value) (w : World) : Prop :=
  Calls P f args w fun r w' => ∃ v, r = .returned v ∧ w'.ownsRow w.heap.size e sz v n C ∧ Below w.heap.size w w'
theorem ownsRow_rd {w : World} {b : Nat} {e : TypeId} {sz n : Nat} {v : Value} {C : List Value} (h : w.ownsRow b e sz v n C) : Rd w v n sz C := by
  obtain ⟨h1, h2⟩ := h
  rcases h2 with ⟨rfl, rfl⟩ | ⟨g, cap, cur, rfl, h3, h4, h5, h6, h7, h8⟩
  · exact ⟨⟨none, 0, rfl, h1, fun _ => rfl, fun p hp => by cases hp⟩⟩
  · refine ⟨⟨_, cap, rfl, h1, fun h => (by cases h), fun p hp j u hu => ?_⟩⟩
    injection hp with hp; subst hp
    exact World.ownsRow.cells (base := b) ⟨h1, .inr ⟨g, cap, cur, rfl, h3, h4, h5, h6, h7, h8⟩⟩ rfl j u hu
theorem InOwn.get {H v n e sz xs k} [i : InOwn H v n e sz xs k] {w0 B w} (h : Sat w0 B H w) : w.ownsRow 0 e sz v n xs := by
  obtain ⟨H1, H2, rfl, _⟩ := i.out
  exact h.mid.1
theorem Sat.pushOwn {w0 : World} {B : Nat} {H : List As} {w w' : World} {v : Value} {n : Nat} {e : TypeId} {sz : Nat} {C : List Value} (h : Sat w0 B H w) (hb : Below w.heap.size w w') (ho : w'.ownsRow w.heap.size e sz v n C) : Sat w0 B (own v n e sz C :: H) w' := by
  refine ⟨⟨ho.1, ho.2.imp id fun ⟨g, cap, cur, e1, _, r⟩ => ⟨g, cap, cur, e1, Nat.zero_le _, r⟩⟩, fun b hS => ?_, fun A hA b hS hS' => ?_, h.below hb⟩
  · have := ho.lt b hS
    exact ⟨Nat.le_trans h.base.2 this.1, this.2⟩
  · have := ho.lt b hS
    exact absurd (h.lt A hA b hS').2 (by omega)
theorem run_append_none {P : Program} (w : World) (t ty e : TypeId) (i : TypeInfo) (ht : P.underlying t = some (.slice e)) (hi : P.info? e = some i) (a : Option Addr) (n cap c : Nat) (hn : n ≤ cap) :
    (Builtin.append_ #[t, t] ty #[.slice a n cap, .slice none 0 c]).run P w = .ok (.slice a n cap) w := by
  cases a <;> simp [Builtin.append_, run_underlying ht, sizeOf, typeInfo, hi, Builtin.lenOf, Builtin.firstCells, hn, go_sem, storeCells]
section
variable {c : Cx} {R : Exit → Act → World → Prop} {s : List Fr} {ops : Array Oper} {Q : Exit → Act → World → Prop} {ρ : Rg} {H : List As} {K : Kt} {t : TypeId} {pos : String} {af : Array Edge} {d : Tmp} {l : List Oper}
theorem OpR.appendR {x y : Operand} {v u : Value} {n m sz bytes : Nat} {e ty : TypeId} {xs C : List Value} {k : Value → Nat → List Value → List As} {tys : Array TypeId} [T : SlT c.P ty e sz bytes]
    (hr : inR c.n x = true) (hr1 : inR c.n y = true) (hx : ev ρ x = v) (O : InOwn H v n e sz xs k) (hy : ev ρ y = u) (hS : ∀ w, Sat c.w0 c.B H w → Rd w u m sz C) (ht : tys = #[ty, ty]) (h1 : C.all one1 = true)
    (hn : n + m ≤ maxLen ∧ (n + m) * bytes ≤ 140737488355328) (kk : ∀ v', K (upd ρ d v') (k v' (n + m) (xs ++ C))) :
    OpR c ops Q ⟨some d, .call ⟨.builtin .append, #[x, y], tys⟩, t, pos, af, none⟩ ρ H K := fun w Kw hw hK => by
  subst ht
  simp only [wpO, Region.wanted, if_true]
  refine .inl ?_
  unfold Oper.wp
  have hx' := (acts_eval (ρ := ρ) hr).trans hx
  have hy' := (acts_eval (ρ := ρ) hr1).trans hy
  obtain ⟨H1, H2, rfl, hk⟩ := O.out
  obtain ⟨hown, hdis, _⟩ := hw.mid
  obtain ⟨a, cap, rfl, hCl, h0, hrow⟩ := (hS w hw).out
  obtain ⟨i, z, hi, hz, hsz, hby, hzs⟩ := T.inf
  cases a with
  | none =>
    have hm := h0 rfl
    subst hm
    have hC0 : C = [] := List.eq_nil_of_length_eq_zero (by simpa using hCl)
    subst hC0
    have hv : ∃ a n' cap', v = .slice a n' cap' ∧ n' ≤ cap' ∧ n' = n := by
      rcases hown.2 with ⟨rfl, h⟩ | ⟨g, cap', cur, rfl, _, _, h5, _⟩
      · exact ⟨_, _, _, rfl, Nat.le_refl _, h.symm⟩
      · exact ⟨_, _, _, rfl, h5, rfl⟩
    obtain ⟨a', n', cap', rfl, hle, rfl⟩ := hv
    have hrun := run_append_none (P := c.P) w ty t e i T.und hi a' n' cap' cap hle
    have hrun' : (execOp (acts c.n ρ).eval ⟨some d, .call ⟨.builtin .append, #[x, y], #[ty, ty]⟩, t, pos, af, none⟩).run c.P w = .ok (.value (.slice a' n' cap')) w := by
      generalize (acts c.n ρ).eval = ε at hx' hy' ⊢
      unfold execOp
      simp only [resolve, invoke, builtin, Sem.run_bind, Sem.run_pure, Result.andThen_ok, List.map_toArray, List.map_cons, List.map_nil, hx', hy', hrun]
    rw [hrun']
    simp only [Oper.upon, acts_put]
    refine hK _ _ _ (kk (.slice a' n' cap')) ?_
    rw [hk]
    simpa using hw
  | some p =>
    obtain ⟨v', w', hrun, ho', hg, _, hat⟩ := run_append_own_at (P := c.P) w 0 ty t e i z sz bytes T.und hi hz hsz hby hzs T.pos v n xs hown p m cap C hCl
      (fun j u hj => hrow p rfl j u hj) (fun u hu => by rw [one1_eq]; exact List.all_eq_true.1 h1 u hu) hn.1 hn.2 (Nat.zero_le _)
    have hrun' : (execOp (acts c.n ρ).eval ⟨some d, .call ⟨.builtin .append, #[x, y], #[ty, ty]⟩, t, pos, af, none⟩).run c.P w = .ok (.value v') w' := by
      generalize (acts c.n ρ).eval = ε at hx' hy' ⊢
      unfold execOp
      simp only [resolve, invoke, builtin, Sem.run_bind, Sem.run_pure, Result.andThen_ok, List.map_toArray, List.map_cons, List.map_nil, hx', hy', hrun]
    rw [hrun']
    simp only [Oper.upon, acts_put]
    refine hK _ _ _ (kk v') ?_
    rw [hk]
    have hB := hw.base.2
    have hlt := ho'.lt
    refine hw.turn ⟨hg.os, hg.tape, hg.output, hg.size, fun q hq => hg.block q (by omega) (fun he => ?_)⟩ ho' (fun q hq => ?_) (fun q hq hlt' => hg.block q hlt' (fun he => hq he.symm))
    · have := (hw.mid.2.2 q he.symm).1
      omega
    · rcases hat with h | h
      · exact .inl (by show v.ownBlock = some q; rw [← h]; exact hq)
      · have : v'.ownBlock = some q := hq
        rw [h] at this
        injection this with this
        subst this
        exact .inr ⟨Nat.le_refl _, (hlt _ h).2⟩
/-- a call that yields a new row -/
theorem OpR.callS {f : FuncId} {a : List Operand} {vs : List Value} {tys : Array TypeId} {n sz : Nat} {e : TypeId} {C : List Value} [F : FnB c.P f] (hr : inRs c.n a = true) (hv : argsOf ρ a = vs)
    (hc : ∀ w, Sat c.w0 c.B H w → PureS c.P f vs.toArray n e sz C w) (k : ∀ v, K (upd ρ d v) (own v n e sz C :: H)) :
    OpR c ops Q ⟨some d, .call ⟨.value (.func f), a.toArray, tys⟩, t, pos, af, none⟩ ρ H K :=
  OpR.callX hr hv (fun r H' => H' = own r n e sz C :: H) (fun w hw => by
    refine (hc w hw).mono ?_
    rintro e' w' ⟨v, rfl, ho, hb⟩
    exact ⟨v, _, rfl, rfl, hw.pushOwn hb ho⟩) (fun r H' h => h ▸ k r)
end
/-- a row that the call owns, read as a list -/
theorem Sl.ofOwn {α : Type} {f : α → List Value} {sz : Nat} {w : World} {v : Value} {xs : List α} {b : Nat} {e : TypeId} (hf : ∀ x, (f x).length = sz) (h : w.ownsRow b e sz v xs.length (xs.flatMap f)) (hl : xs.length < 4611686018427387904) : Sl f sz w v xs := by
  obtain ⟨h1, h2⟩ := h
  rcases h2 with ⟨rfl, h0⟩ | ⟨g, cap, cur, rfl, h3, h4, h5, h6, h7, h8⟩
  · have : xs = [] := List.eq_nil_of_length_eq_zero h0
    subst this; exact Sl.nil_
  · refine ⟨⟨_, cap, rfl, fun _ => ⟨g, 0, rfl, (Array.getElem?_eq_some_iff.1 h4).1, fun k hk i u hu => ?_⟩⟩, hl⟩
    have hc := World.ownsRow.cells (base := b) (w := w) (v := .slice (some ⟨g, 0, none⟩) xs.length cap) ⟨h1, .inr ⟨g, cap, cur, rfl, h3, h4, h5, h6, h7, h8⟩⟩ rfl (k * sz + i) u
    rw [add_mk] at hc
    rw [Nat.add_assoc]
    refine hc ?_
    have key : ∀ (ys : List α) (k : Nat) (hk : k < ys.length), (ys.flatMap f)[k * sz + i]? = (f ys[k])[i]? := by
      have hi : i < sz := by rw [← hf xs[k]]; exact (List.getElem?_eq_some_iff.1 hu).1
      intro ys
      induction ys with
      | nil => intro k hk; simp at hk
      | cons y ys ih =>
        intro k hk
        rw [List.flatMap_cons]
        cases k with
        | zero => rw [List.getElem?_append_left (by rw [hf]; omega)]; simp
        | succ k =>
          rw [List.getElem?_append_right (by rw [hf, Nat.add_mul]; omega), hf]
          have e1 : (k + 1) * sz + i - sz = k * sz + i := by rw [Nat.add_mul]; omega
          rw [e1, ih k (by simpa using hk)]
          simp
    rw [key xs k hk]; exact hu
theorem Sl.rd {α : Type} {f : α → List Value} {sz : Nat} {w : World} {v : Value} {xs : List α} (hf : ∀ x, (f x).length = sz) (h : Sl f sz w v xs) : Rd w v xs.length sz (xs.flatMap f) := by
  obtain ⟨a, cap, rfl, hr⟩ := h.out
  have hlen : ∀ ys : List α, (ys.flatMap f).length = ys.length * sz := by
    intro ys
    induction ys with
    | nil => simp
    | cons y ys ih => rw [List.flatMap_cons, List.length_append, ih, hf, List.length_cons, Nat.add_mul]; omega
  refine ⟨⟨a, cap, rfl, hlen xs, fun h0 => ?_, fun p hp j u hu => ?_⟩⟩
  · rcases Nat.eq_zero_or_pos xs.length with h | h
    · exact h
    · obtain ⟨b, o, rfl, _⟩ := hr h; cases h0
  · have hj : j < xs.length * sz := by rw [← hlen]; exact (List.getElem?_eq_some_iff.1 hu).1
    have hsz : 0 < sz := Nat.pos_of_ne_zero fun h => by rw [h] at hj; simp at hj
    have hk : j / sz < xs.length := (Nat.div_lt_iff_lt_mul hsz).2 hj
    obtain ⟨b, o, rfl, _, hc⟩ := hr (Nat.lt_of_le_of_lt (Nat.zero_le _) hk)
    injection hp with hp; subst hp
    have key : ∀ (ys : List α) (j : Nat) (hk : j / sz < ys.length), (ys.flatMap f)[j]? = (f ys[j / sz])[j % sz]? := by
      intro ys
      induction ys with
      | nil => intro k hk; simp at hk
      | cons y ys ih =>
        intro j hk
        rw [List.flatMap_cons]
        rcases Nat.lt_or_ge j sz with h | h
        · rw [List.getElem?_append_left (by rw [hf]; exact h)]
          simp [Nat.div_eq_of_lt h, Nat.mod_eq_of_lt h]
        · have e1 : j / sz = (j - sz) / sz + 1 := Nat.div_eq_sub_div hsz h
          have e2 : j % sz = (j - sz) % sz := Nat.mod_eq_sub_mod h
          rw [List.getElem?_append_right (by rw [hf]; exact h), hf]
          have hk' : (j - sz) / sz < ys.length := by simp at hk; omega
          rw [ih (j - sz) hk']
          simp only [e1, e2, List.getElem_cons_succ]
    rw [key xs j hk] at hu
    have := hc (j / sz) hk (j % sz) u hu
    rw [add_mk]
    have e3 : o + j / sz * sz + j % sz = o + j := by
      have := Nat.div_add_mod j sz
      rw [Nat.mul_comm] at this; omega
    rw [e3] at this; exact this
theorem InH.rd {H : List As} {b : Nat} {ty : TypeId} {C : List Value} {k : List Value → List As} [I : InH H b ty C k] {w0 : World} {B : Nat} {w : World} {m sz cap : Nat} (h : Sat w0 B H w) (hC : Nat.beq C.length (m * sz) = true) : Rd w (.slice (some ⟨b, 0, none⟩) m cap) m sz C := by
  have hb := (InH.get (i := I) h).1
  refine ⟨⟨_, cap, rfl, Nat.eq_of_beq_eq_true hC, fun h => (by cases h), fun p hp j u hu => ?_⟩⟩
  injection hp with hp; subst hp
  rw [add_mk]; simp [World.cell?, hb, hu]
section
variable {c : Cx} {R : Exit → Act → World → Prop} {s : List Fr} {ops : Array Oper} {ρ : Rg} {H : List As} {t : TypeId} {pos : String} {af : Array Edge} {d : Tmp} {l : List Oper} {op : Op}
theorem Val.orT {dst : Option Tmp} {gd : Option (Nat × Bool)} {x y : Operand} {b : Bool} (hr : inR c.n x = true) (hr1 : inR c.n y = true) (hb : b = true) (hx : ev ρ x = .bool b) : Val c ρ H ⟨dst, .pick x (.const (.bool true)) y, t, pos, af, gd⟩ (.bool true) := Val.pick hr rfl hr1 hx rfl rfl (by subst hb; simp [ev, cv])
theorem Val.andF {dst : Option Tmp} {gd : Option (Nat × Bool)} {x y : Operand} {b : Bool} (hr : inR c.n x = true) (hr1 : inR c.n y = true) (hb : b = false) (hx : ev ρ x = .bool b) : Val c ρ H ⟨dst, .pick x y (.const (.bool false)), t, pos, af, gd⟩ (.bool false) := Val.pick hr hr1 rfl hx rfl rfl (by subst hb; simp [ev, cv])
theorem SL.gsplit {gi gd : Nat} {want G : Bool} (hd : (ops[gi]?).bind (·.dst) = some gd) (hn : Nat.blt gd c.n = true) (hG : GdOf (ρ gd) want G)
    (h1 : G = true → SL c R s ops (⟨some d, op, t, pos, af, none⟩ :: l) ρ H) (h0 : G = false → SL c R s ops l (upd ρ d undef) H) : SL c R s ops (⟨some d, op, t, pos, af, some (gi, want)⟩ :: l) ρ H := fun w hw => by
  unfold wpList
  simp only [wanted_of hd hn hG]
  cases G with
  | true =>
    have := h1 rfl w hw
    unfold wpList at this
    simp only [Region.wanted, if_true] at this
    simp only [if_true]
    exact this
  | false =>
    simp only [Bool.false_eq_true, if_false, acts_put]
    exact h0 rfl w hw
end
/-- what a call leaves that yields a new row -/
def PureSR (c : Cx) (n : Nat) (e : TypeId) (sz : Nat) (C : List Value) : Ending → World → Prop := fun r w' => ∃ v, r = .returned v ∧ w'.ownsRow c.B e sz v n C ∧ Below c.B c.w0 w'
theorem pureSIn {P : Program} {f : FuncId} {fn : Func} {x : Code} {args : List Value} {w : World} {n : Nat} {e : TypeId} {sz : Nat} {C : List Value} (hf : P.funcs[f]? = some fn) (hb : fn.body = some x) (hn : Nat.ble args.length fn.ntmps = true)
    (h : SC ⟨P, fn.ntmps, w, w.heap.size⟩ (bodyPost P fn (PureSR ⟨P, fn.ntmps, w, w.heap.size⟩ n e sz C)) [] x (rg0 args) []) : PureS P f args.toArray n e sz C w := enter hf hb hn h
theorem InOwn.getB {H v n e sz xs k} [i : InOwn H v n e sz xs k] {w0 B w} (h : Sat w0 B H w) : w.ownsRow B e sz v n xs := by
  obtain ⟨H1, H2, rfl, _⟩ := i.out
  obtain ⟨h1, _, h3⟩ := h.mid
  refine ⟨h1.1, h1.2.imp id ?_⟩
  rintro ⟨g, cap, cur, rfl, _, r⟩
  exact ⟨g, cap, cur, rfl, (h3 g rfl).1, r⟩
theorem SN.pS {c : Cx} {fn : Func} {ρ : Rg} {H : List As} {a1 : ResultVar} {u1 : Value} {n : Nat} {e : TypeId} {sz : Nat} {C : List Value} {k : Value → Nat → List Value → List As} (hres : fn.results = #[a1] := by rfl) (h1 : ResV c ρ H a1 u1 := by first | exact ResV.tmp rfl rfl | exact ResV.cell rfl rfl (by infer_instance) rfl | exact ResV.cell1 rfl rfl (by infer_instance)) (O : InOwn H u1 n e sz C k := by infer_instance) : SN c (bodyPost c.P fn (PureSR c n e sz C)) [] .ret ρ H :=
  SN.r1 hres h1 fun _ hw => ⟨_, rfl, InOwn.getB (i := O) hw, hw.base.1⟩
theorem own_snoc {α : Type} {f : α → List Value} {v : Value} {e : TypeId} {sz : Nat} (ys : List α) (y : α) : own v (ys.length + 1) e sz (ys.flatMap f ++ f y) = own v (ys ++ [y]).length e sz ((ys ++ [y]).flatMap f) := by simp
theorem own_app {α : Type} {f : α → List Value} {v : Value} {e : TypeId} {sz : Nat} (ys zs : List α) : own v (ys.length + zs.length) e sz (ys.flatMap f ++ zs.flatMap f) = own v (ys ++ zs).length e sz ((ys ++ zs).flatMap f) := by simp
end Go.Eng

namespace Go.Eng
open Go Go.RowKit IntWalk
/-- what a call that only reckons leaves -/
def PureR (c : Cx) (r : Value) : Ending → World → Prop := fun e w' => e = .returned r ∧ Below c.B c.w0 w'
theorem pureIn {P : Program} {f : FuncId} {fn : Func} {x : Code} {args : List Value} {w : World} {r : Value} (hf : P.funcs[f]? = some fn) (hb : fn.body = some x) (hn : Nat.ble args.length fn.ntmps = true)
    (h : SC ⟨P, fn.ntmps, w, w.heap.size⟩ (bodyPost P fn (PureR ⟨P, fn.ntmps, w, w.heap.size⟩ r)) [] x (rg0 args) []) : Pure P f args.toArray r w := enter hf hb hn h
theorem Pure.eq {P : Program} {f : FuncId} {args : Array Value} {w : World} {r r' : Value} (h : Pure P f args r w) (e : r = r') : Pure P f args r' w := e ▸ h
section
variable {ρ : Rg} {x : Operand}
theorem ev_hit {d : Nat} {v : Value} : ev (upd ρ d v) (.tmp d) = v := by simp [ev, upd]
theorem aNil : argsOf ρ [] = [] := rfl
theorem aCons {l : List Operand} {v : Value} {C : List Value} (h : ev ρ x = v) (h2 : argsOf ρ l = C) : argsOf ρ (x :: l) = v :: C := by rw [argsOf, h, h2]
theorem evU {a : UInt64} (h : ev ρ x = u64 a) : ev ρ x = u64 a := h
theorem evB {a : Bool} (h : ev ρ x = .bool a) : ev ρ x = .bool a := h
theorem evI {a : Int} (h : ev ρ x = .int .i64 a) : ev ρ x = .int .i64 a := h
theorem evP {b e i : Nat} (h : ev ρ x = ptr b e i) : ev ρ x = ptr b e i := h
theorem evA {C : List Value} (h : ev ρ x = .agg ⟨C⟩) : ev ρ x = .agg ⟨C⟩ := h
theorem evS {a : Option Addr} {n m : Nat} (h : ev ρ x = .slice a n m) : ev ρ x = .slice a n m := h
theorem ev8 {a : UInt8} (h : ev ρ x = u8 a) : ev ρ x = u8 a := h
theorem evG {b : Bool} {v : Value} (h : ev ρ x = gv b v) : ev ρ x = gv b v := h
theorem evF {f : Fn} {a b : Array Value} (h : ev ρ x = .func f a b) : ev ρ x = .func f a b := h
theorem evT {C : List Value} (h : ev ρ x = .tuple ⟨C⟩) : ev ρ x = .tuple ⟨C⟩ := h
end
section
variable {c : Cx} {ρ : Rg} {H : List As} {fn : Func}
theorem SN.p0 (hres : fn.results = #[] := by rfl) : SN c (bodyPost c.P fn (PureR c (.tuple #[]))) [] .ret ρ H := SN.r0 hres fun _ hw => ⟨rfl, hw.base.1⟩
theorem SN.p1 {a1 : ResultVar} {u1 : Value} (hres : fn.results = #[a1] := by rfl) (h1 : ResV c ρ H a1 u1 := by first | exact ResV.tmp rfl rfl | exact ResV.cell rfl rfl (by infer_instance) rfl | exact ResV.cell1 rfl rfl (by infer_instance)) : SN c (bodyPost c.P fn (PureR c u1)) [] .ret ρ H := SN.r1 hres h1 fun _ hw => ⟨rfl, hw.base.1⟩
theorem SN.p2 {a1 a2 : ResultVar} {u1 u2 : Value} (hres : fn.results = #[a1, a2] := by rfl) (h1 : ResV c ρ H a1 u1 := by first | exact ResV.tmp rfl rfl | exact ResV.cell rfl rfl (by infer_instance) rfl | exact ResV.cell1 rfl rfl (by infer_instance)) (h2 : ResV c ρ H a2 u2 := by first | exact ResV.tmp rfl rfl | exact ResV.cell rfl rfl (by infer_instance) rfl | exact ResV.cell1 rfl rfl (by infer_instance)) : SN c (bodyPost c.P fn (PureR c (.tuple #[u1, u2]))) [] .ret ρ H := SN.r2 hres h1 h2 fun _ hw => ⟨rfl, hw.base.1⟩
theorem SN.p3 {a1 a2 a3 : ResultVar} {u1 u2 u3 : Value} (hres : fn.results = #[a1, a2, a3] := by rfl) (h1 : ResV c ρ H a1 u1 := by first | exact ResV.tmp rfl rfl | exact ResV.cell rfl rfl (by infer_instance) rfl | exact ResV.cell1 rfl rfl (by infer_instance)) (h2 : ResV c ρ H a2 u2 := by first | exact ResV.tmp rfl rfl | exact ResV.cell rfl rfl (by infer_instance) rfl | exact ResV.cell1 rfl rfl (by infer_instance)) (h3 : ResV c ρ H a3 u3 := by first | exact ResV.tmp rfl rfl | exact ResV.cell rfl rfl (by infer_instance) rfl | exact ResV.cell1 rfl rfl (by infer_instance)) : SN c (bodyPost c.P fn (PureR c (.tuple #[u1, u2, u3]))) [] .ret ρ H := SN.r3 hres h1 h2 h3 fun _ hw => ⟨rfl, hw.base.1⟩
end
theorem Sat.sub {w0 : World} {B : Nat} {w : World} : ∀ {H H' : List As}, H'.Sublist H → Sat w0 B H w → Sat w0 B H' w
  | _, _, .slnil, h => h
  | _, _, .cons _ hs, h => Sat.sub hs h.2.2.2
  | _, _, .cons_cons _ hs, h => ⟨h.1, h.2.1, fun A hA => h.2.2.1 A (hs.subset hA), Sat.sub hs h.2.2.2⟩
theorem gv_tt {v : Value} : gv true v = v := rfl
attribute [irreducible] Val SC SL SN OpR Sat Pure lpI rgI SD gv
/-- H' is a part of H -/
class HSub (H H' : List As) : Prop where
  out : H'.Sublist H
instance HSub.rf {H : List As} : HSub H H := ⟨List.Sublist.refl _⟩
instance (priority := low) HSub.keep {A : As} {H H' : List As} [i : HSub H H'] : HSub (A :: H) (A :: H') := ⟨i.out.cons_cons A⟩
instance (priority := low) HSub.drop {A : As} {H H' : List As} [i : HSub H H'] : HSub (A :: H) H' := ⟨i.out.cons A⟩
theorem hsub {H H' : List As} [i : HSub H H'] {w0 : World} {B : Nat} : ∀ w, Sat w0 B H w → Sat w0 B H' w := fun _ h => h.sub i.out
section
variable {c : Cx} {R : Exit → Act → World → Prop} {s : List Fr} {ops : Array Oper} {l : List Oper} {ρ : Rg} {H : List As} {t : TypeId} {pos : String} {af : Array Edge} {d : Tmp} {op : Op}
/-- an operation that yields a value -/
theorem SL.v {v : Value} (h : Val c ρ H ⟨some d, op, t, pos, af, none⟩ v := by
    first
    | exact Val.move rfl (by first | exact evU rfl | exact evB rfl | exact evI rfl | exact evP rfl | exact evA rfl | exact evS rfl | exact ev8 rfl | exact evF rfl | exact evT rfl | exact evG rfl | rfl)
    | exact Val.assign rfl (by first | exact evU rfl | exact evB rfl | exact evI rfl | exact evP rfl | exact evA rfl | exact evS rfl | exact ev8 rfl | exact evF rfl | exact evT rfl | exact evG rfl | rfl)
    | exact Val.load1 rfl rfl rfl
    | exact Val.field rfl rfl
    | exact Val.nilCheck rfl rfl
    | exact Val.cmpU rfl rfl rfl rfl rfl
    | exact Val.cmp8 rfl rfl rfl rfl rfl
    | exact Val.cmp rfl rfl rfl rfl rfl
    | exact Val.extract rfl rfl rfl
    | exact Val.len rfl rfl rfl
    | exact Val.arU rfl rfl rfl rfl rfl
    | exact Val.loadB1 rfl rfl rfl
    | exact Val.loadN rfl rfl rfl
    | exact Val.loadBN rfl rfl rfl
    | exact Val.and rfl rfl rfl (ev_hit.trans rfl)
    | exact Val.or rfl rfl rfl (ev_hit.trans rfl)
    | exact Val.and rfl rfl rfl rfl
    | exact Val.or rfl rfl rfl rfl
    | exact Val.not rfl rfl
    | exact Val.idx rfl rfl rfl rfl (by omega)
    | exact Val.add rfl rfl rfl rfl (i64_in _ (by omega))
    | exact Val.sub rfl rfl rfl rfl (i64_in _ (by omega))
    | exact Val.mul rfl rfl rfl rfl (i64_in _ (by omega))
    | exact Val.quoI rfl rfl (by omega) (by omega)
    | exact Val.remI rfl rfl (by omega) (by omega)
    | exact Val.arW rfl rfl rfl rfl rfl
    | exact Val.nilCheckP rfl rfl
    | exact Val.makeFunc rfl rfl
    | exact Val.bitU rfl rfl rfl rfl rfl
    | exact Val.bit8 rfl rfl rfl rfl rfl
    | exact Val.shrU rfl rfl rfl rfl (by decide)
    | exact Val.shlU rfl rfl rfl rfl (by decide)
    | exact Val.convIU rfl rfl
    | exact Val.convUI rfl rfl
    | exact Val.convUU rfl rfl
    | exact Val.convII rfl rfl (i64_in _ (by omega))
    | exact Val.minI rfl rfl rfl rfl
    | exact Val.maxI rfl rfl rfl rfl
    | exact Val.minU rfl rfl rfl rfl
    | exact Val.maxU rfl rfl rfl rfl
    | exact Val.build rfl rfl
    | exact Val.pick rfl rfl rfl rfl rfl rfl rfl)
    (k : SL c R s ops l (upd ρ d v) H) : SL c R s ops (⟨some d, op, t, pos, af, none⟩ :: l) ρ H := SL.cons (OpR.val h k)
theorem SL.g {v : Value} {gi gd : Nat} {want G : Bool} (hd : (ops[gi]?).bind (·.dst) = some gd := by rfl) (hn : Nat.blt gd c.n = true := by rfl) (hG : GdOf (ρ gd) want G := by first | exact .one rfl | exact .two rfl)
    (h : G = true → Val c ρ H ⟨some d, op, t, pos, af, some (gi, want)⟩ v := by
    intro hG
    try rw [hG]
    try simp only [gv_tt]
    first
    | exact Val.move rfl (by first | exact evU rfl | exact evB rfl | exact evI rfl | exact evP rfl | exact evA rfl | exact evS rfl | exact ev8 rfl | exact evF rfl | exact evT rfl | exact evG rfl | rfl)
    | exact Val.assign rfl (by first | exact evU rfl | exact evB rfl | exact evI rfl | exact evP rfl | exact evA rfl | exact evS rfl | exact ev8 rfl | exact evF rfl | exact evT rfl | exact evG rfl | rfl)
    | exact Val.load1 rfl rfl rfl
    | exact Val.field rfl rfl
    | exact Val.nilCheck rfl rfl
    | exact Val.cmpU rfl rfl rfl rfl rfl
    | exact Val.cmp8 rfl rfl rfl rfl rfl
    | exact Val.cmp rfl rfl rfl rfl rfl
    | exact Val.extract rfl rfl rfl
    | exact Val.len rfl rfl rfl
    | exact Val.arU rfl rfl rfl rfl rfl
    | exact Val.loadB1 rfl rfl rfl
    | exact Val.loadN rfl rfl rfl
    | exact Val.loadBN rfl rfl rfl
    | exact Val.and rfl rfl rfl (ev_hit.trans rfl)
    | exact Val.or rfl rfl rfl (ev_hit.trans rfl)
    | exact Val.and rfl rfl rfl rfl
    | exact Val.or rfl rfl rfl rfl
    | exact Val.not rfl rfl
    | exact Val.idx rfl rfl rfl rfl (by omega)
    | exact Val.add rfl rfl rfl rfl (i64_in _ (by omega))
    | exact Val.sub rfl rfl rfl rfl (i64_in _ (by omega))
    | exact Val.mul rfl rfl rfl rfl (i64_in _ (by omega))
    | exact Val.quoI rfl rfl (by omega) (by omega)
    | exact Val.remI rfl rfl (by omega) (by omega)
    | exact Val.arW rfl rfl rfl rfl rfl
    | exact Val.nilCheckP rfl rfl
    | exact Val.makeFunc rfl rfl
    | exact Val.bitU rfl rfl rfl rfl rfl
    | exact Val.bit8 rfl rfl rfl rfl rfl
    | exact Val.shrU rfl rfl rfl rfl (by decide)
    | exact Val.shlU rfl rfl rfl rfl (by decide)
    | exact Val.convIU rfl rfl
    | exact Val.convUI rfl rfl
    | exact Val.convUU rfl rfl
    | exact Val.convII rfl rfl (i64_in _ (by omega))
    | exact Val.minI rfl rfl rfl rfl
    | exact Val.maxI rfl rfl rfl rfl
    | exact Val.minU rfl rfl rfl rfl
    | exact Val.maxU rfl rfl rfl rfl
    | exact Val.build rfl rfl
    | exact Val.andG rfl rfl hG rfl (ev_hit.trans rfl)
    | exact Val.orG rfl rfl hG rfl (ev_hit.trans rfl)
    | exact Val.andG rfl rfl hG rfl rfl
    | exact Val.orG rfl rfl hG rfl rfl)
    (k : SL c R s ops l (upd ρ d (gv G v)) H) : SL c R s ops (⟨some d, op, t, pos, af, some (gi, want)⟩ :: l) ρ H := SL.cons (OpR.valG hd hn hG h k)
theorem SL.box {x : Operand} {v : Value} {C : List Value} {ty : TypeId} (hr : inR c.n x = true := by rfl) (hx : ev ρ x = v := by first | exact evU rfl | exact evB rfl | exact evI rfl | exact evP rfl | exact evA rfl | exact evS rfl | exact ev8 rfl | exact evF rfl | exact evT rfl | exact evG rfl | rfl) (hC : v.cells = ⟨C⟩ := by first | rfl | exact cells_ptr _ _ _) (k : ∀ b, SL c R s ops l (upd ρ d (ptr b 0 0)) (cell b ty C :: H)) :
    SL c R s ops (⟨some d, .box ty x, t, pos, af, none⟩ :: l) ρ H := SL.cons (OpR.box hr hx hC k)
theorem SL.alloc {z : Value} {C : List Value} {ty : TypeId} [Z : TyZ c.P ty z] (hC : z.cells = ⟨C⟩ := by rfl) (k : ∀ b, SL c R s ops l (upd ρ d (ptr b 0 0)) (cell b ty C :: H)) :
    SL c R s ops (⟨some d, .alloc ty, t, pos, af, none⟩ :: l) ρ H := SL.cons (OpR.alloc hC k)
theorem SL.call {f : FuncId} {a : List Operand} {vs : List Value} {tys : Array TypeId} {r : Value} [F : FnB c.P f] (hc : ∀ w, Sat c.w0 c.B H w → Pure c.P f vs.toArray r w) (hr : inRs c.n a = true := by rfl) (hv : argsOf ρ a = vs := by rfl)
    (k : SL c R s ops l (upd ρ d r) H) : SL c R s ops (⟨some d, .call ⟨.value (.func f), a.toArray, tys⟩, t, pos, af, none⟩ :: l) ρ H := SL.cons (OpR.call hr hv hc k)
/-- the region's end, and what comes next -/
theorem SL.n {y : Code} (h : SC c R s y ρ H) : SL c R (.seq y :: s) ops [] ρ H := SL.nil (SN.seqN h)
theorem SC.r {id : Nat} {a : List Oper} {y : Code} (h : SL c R (.seq y :: s) a.toArray a ρ H) : SC c R s (.seq (.region id a.toArray false) y) ρ H := SC.seq (SC.region h)
variable {Hs : List As} {fin : Nat → Bool} {lo : List (Nat × Bool)} {i : Nat}
/-- in a region that draws: an operation that is taken early -/
theorem SD.v {v : Value} (ho : ops[i]? = some ⟨some d, op, t, pos, af, none⟩ := by rfl) (h : Val c ρ Hs ⟨some d, op, t, pos, af, none⟩ v := by
    first
    | exact Val.move rfl (by first | exact evU rfl | exact evB rfl | exact evI rfl | exact evP rfl | exact evA rfl | exact evS rfl | exact ev8 rfl | exact evF rfl | exact evT rfl | exact evG rfl | rfl)
    | exact Val.assign rfl (by first | exact evU rfl | exact evB rfl | exact evI rfl | exact evP rfl | exact evA rfl | exact evS rfl | exact ev8 rfl | exact evF rfl | exact evT rfl | exact evG rfl | rfl)
    | exact Val.load1 rfl rfl rfl
    | exact Val.field rfl rfl
    | exact Val.nilCheck rfl rfl
    | exact Val.cmpU rfl rfl rfl rfl rfl
    | exact Val.cmp8 rfl rfl rfl rfl rfl
    | exact Val.cmp rfl rfl rfl rfl rfl
    | exact Val.extract rfl rfl rfl
    | exact Val.len rfl rfl rfl
    | exact Val.arU rfl rfl rfl rfl rfl
    | exact Val.loadB1 rfl rfl rfl
    | exact Val.loadN rfl rfl rfl
    | exact Val.loadBN rfl rfl rfl
    | exact Val.and rfl rfl rfl (ev_hit.trans rfl)
    | exact Val.or rfl rfl rfl (ev_hit.trans rfl)
    | exact Val.and rfl rfl rfl rfl
    | exact Val.or rfl rfl rfl rfl
    | exact Val.not rfl rfl
    | exact Val.idx rfl rfl rfl rfl (by omega)
    | exact Val.add rfl rfl rfl rfl (i64_in _ (by omega))
    | exact Val.sub rfl rfl rfl rfl (i64_in _ (by omega))
    | exact Val.mul rfl rfl rfl rfl (i64_in _ (by omega))
    | exact Val.quoI rfl rfl (by omega) (by omega)
    | exact Val.remI rfl rfl (by omega) (by omega)
    | exact Val.arW rfl rfl rfl rfl rfl
    | exact Val.nilCheckP rfl rfl
    | exact Val.makeFunc rfl rfl
    | exact Val.bitU rfl rfl rfl rfl rfl
    | exact Val.bit8 rfl rfl rfl rfl rfl
    | exact Val.shrU rfl rfl rfl rfl (by decide)
    | exact Val.shlU rfl rfl rfl rfl (by decide)
    | exact Val.convIU rfl rfl
    | exact Val.convUI rfl rfl
    | exact Val.convUU rfl rfl
    | exact Val.convII rfl rfl (i64_in _ (by omega))
    | exact Val.minI rfl rfl rfl rfl
    | exact Val.maxI rfl rfl rfl rfl
    | exact Val.minU rfl rfl rfl rfl
    | exact Val.maxU rfl rfl rfl rfl
    | exact Val.build rfl rfl
    | exact Val.pick rfl rfl rfl rfl rfl rfl rfl)
    (k : SD c R s ops Hs fin lo (upd ρ d v) H) : SD c R s ops Hs fin ((i, true) :: lo) ρ H := SD.val ho h k
theorem SD.g {v : Value} {gi gd : Nat} {want G : Bool} (ho : ops[i]? = some ⟨some d, op, t, pos, af, some (gi, want)⟩ := by rfl) (hd : (ops[gi]?).bind (·.dst) = some gd := by rfl) (hn : Nat.blt gd c.n = true := by rfl) (hG : GdOf (ρ gd) want G := by first | exact .one rfl | exact .two rfl)
    (h : G = true → Val c ρ Hs ⟨some d, op, t, pos, af, some (gi, want)⟩ v := by
    intro hG
    try rw [hG]
    try simp only [gv_tt]
    first
    | exact Val.move rfl (by first | exact evU rfl | exact evB rfl | exact evI rfl | exact evP rfl | exact evA rfl | exact evS rfl | exact ev8 rfl | exact evF rfl | exact evT rfl | exact evG rfl | rfl)
    | exact Val.assign rfl (by first | exact evU rfl | exact evB rfl | exact evI rfl | exact evP rfl | exact evA rfl | exact evS rfl | exact ev8 rfl | exact evF rfl | exact evT rfl | exact evG rfl | rfl)
    | exact Val.load1 rfl rfl rfl
    | exact Val.field rfl rfl
    | exact Val.nilCheck rfl rfl
    | exact Val.cmpU rfl rfl rfl rfl rfl
    | exact Val.cmp8 rfl rfl rfl rfl rfl
    | exact Val.cmp rfl rfl rfl rfl rfl
    | exact Val.extract rfl rfl rfl
    | exact Val.len rfl rfl rfl
    | exact Val.arU rfl rfl rfl rfl rfl
    | exact Val.loadB1 rfl rfl rfl
    | exact Val.loadN rfl rfl rfl
    | exact Val.loadBN rfl rfl rfl
    | exact Val.and rfl rfl rfl (ev_hit.trans rfl)
    | exact Val.or rfl rfl rfl (ev_hit.trans rfl)
    | exact Val.and rfl rfl rfl rfl
    | exact Val.or rfl rfl rfl rfl
    | exact Val.not rfl rfl
    | exact Val.idx rfl rfl rfl rfl (by omega)
    | exact Val.add rfl rfl rfl rfl (i64_in _ (by omega))
    | exact Val.sub rfl rfl rfl rfl (i64_in _ (by omega))
    | exact Val.mul rfl rfl rfl rfl (i64_in _ (by omega))
    | exact Val.quoI rfl rfl (by omega) (by omega)
    | exact Val.remI rfl rfl (by omega) (by omega)
    | exact Val.arW rfl rfl rfl rfl rfl
    | exact Val.nilCheckP rfl rfl
    | exact Val.makeFunc rfl rfl
    | exact Val.bitU rfl rfl rfl rfl rfl
    | exact Val.bit8 rfl rfl rfl rfl rfl
    | exact Val.shrU rfl rfl rfl rfl (by decide)
    | exact Val.shlU rfl rfl rfl rfl (by decide)
    | exact Val.convIU rfl rfl
    | exact Val.convUI rfl rfl
    | exact Val.convUU rfl rfl
    | exact Val.convII rfl rfl (i64_in _ (by omega))
    | exact Val.minI rfl rfl rfl rfl
    | exact Val.maxI rfl rfl rfl rfl
    | exact Val.minU rfl rfl rfl rfl
    | exact Val.maxU rfl rfl rfl rfl
    | exact Val.build rfl rfl
    | exact Val.andG rfl rfl hG rfl (ev_hit.trans rfl)
    | exact Val.orG rfl rfl hG rfl (ev_hit.trans rfl)
    | exact Val.andG rfl rfl hG rfl rfl
    | exact Val.orG rfl rfl hG rfl rfl)
    (k : SD c R s ops Hs fin lo (upd ρ d (gv G v)) H) : SD c R s ops Hs fin ((i, true) :: lo) ρ H := SD.valG ho hd hn hG h k
/-- in a region that draws: an operation that comes alone -/
theorem SD.o {o : Oper} (ho : ops[i]? = some o := by rfl) (h : OpR c ops (stk c.P R s) o ρ H (fun ρ' H' => (∀ w, Sat c.w0 c.B H' w → Sat c.w0 c.B Hs w) ∧ SD c R s ops Hs fin lo ρ' H')) : SD c R s ops Hs fin ((i, false) :: lo) ρ H :=
  SD.one ho (h.imp fun _ _ hk => ⟨fun _ => hk.1, hk.2⟩)
theorem SD.f {o : Oper} (ho : ops[i]? = some o := by rfl) (hf : fin i = true := by rfl) (h : OpR c ops (stk c.P R s) o ρ H (SD c R s ops Hs fin lo)) : SD c R s ops Hs fin ((i, false) :: lo) ρ H :=
  SD.one ho (h.imp fun _ _ hk => ⟨fun h0 => absurd (hf.symm.trans h0) (by decide), hk⟩)
theorem SD.call {f : FuncId} {a : List Operand} {vs : List Value} {tys : Array TypeId} {r : Value} [F : FnB c.P f] (hc : ∀ w, Sat c.w0 c.B H w → Pure c.P f vs.toArray r w)
    (ho : ops[i]? = some ⟨some d, .call ⟨.value (.func f), a.toArray, tys⟩, t, pos, af, none⟩ := by rfl) (hr : inRs c.n a = true := by rfl) (hv : argsOf ρ a = vs := by rfl) (hS : ∀ w, Sat c.w0 c.B H w → Sat c.w0 c.B Hs w := by exact hsub)
    (k : SD c R s ops Hs fin lo (upd ρ d r) H) : SD c R s ops Hs fin ((i, false) :: lo) ρ H := SD.o ho (OpR.call hr hv hc ⟨hS, k⟩)
theorem SD.callG {f : FuncId} {a : List Operand} {vs : List Value} {tys : Array TypeId} {r : Value} [F : FnB c.P f] {gi gd : Nat} {want G : Bool} (hc : G = true → ∀ w, Sat c.w0 c.B H w → Pure c.P f vs.toArray r w)
    (ho : ops[i]? = some ⟨some d, .call ⟨.value (.func f), a.toArray, tys⟩, t, pos, af, some (gi, want)⟩ := by rfl) (hd : (ops[gi]?).bind (·.dst) = some gd := by rfl) (hn : Nat.blt gd c.n = true := by rfl) (hG : GdOf (ρ gd) want G := by first | exact .one rfl | exact .two rfl)
    (hr : inRs c.n a = true := by rfl) (hv : G = true → argsOf ρ a = vs := by (intro hG; try rw [hG]); (try simp only [gv_tt]); rfl) (hS : ∀ w, Sat c.w0 c.B H w → Sat c.w0 c.B Hs w := by exact hsub)
    (k : SD c R s ops Hs fin lo (upd ρ d (gv G r)) H) : SD c R s ops Hs fin ((i, false) :: lo) ρ H := SD.o ho (OpR.callG hd hn hG hr hv hc ⟨hS, k⟩)
theorem SD.box {x : Operand} {v : Value} {C : List Value} {ty : TypeId} (ho : ops[i]? = some ⟨some d, .box ty x, t, pos, af, none⟩ := by rfl) (hr : inR c.n x = true := by rfl) (hx : ev ρ x = v := by first | exact evU rfl | exact evB rfl | exact evI rfl | exact evP rfl | exact evA rfl | exact evS rfl | exact ev8 rfl | exact evF rfl | exact evT rfl | exact evG rfl | rfl) (hC : v.cells = ⟨C⟩ := by first | rfl | exact cells_ptr _ _ _) (hS : ∀ w, Sat c.w0 c.B H w → Sat c.w0 c.B Hs w := by exact hsub)
    (k : ∀ b, SD c R s ops Hs fin lo (upd ρ d (ptr b 0 0)) (cell b ty C :: H)) : SD c R s ops Hs fin ((i, false) :: lo) ρ H := SD.o ho (OpR.box hr hx hC fun b => ⟨fun w hw => hS w (Sat.drop hw), k b⟩)
theorem SD.alloc {z : Value} {C : List Value} {ty : TypeId} (ho : ops[i]? = some ⟨some d, .alloc ty, t, pos, af, none⟩ := by rfl) (Z : TyZ c.P ty z := by infer_instance) (hC : z.cells = ⟨C⟩ := by rfl) (hS : ∀ w, Sat c.w0 c.B H w → Sat c.w0 c.B Hs w := by exact hsub)
    (k : ∀ b, SD c R s ops Hs fin lo (upd ρ d (ptr b 0 0)) (cell b ty C :: H)) : SD c R s ops Hs fin ((i, false) :: lo) ρ H := SD.o ho (OpR.alloc (Z := Z) hC fun b => ⟨fun w hw => hS w (Sat.drop hw), k b⟩)
theorem SD.bs {ty e : TypeId} {len : Nat} {parts : List (Nat × Operand)} {C : List Value} {z : Value} (ho : ops[i]? = some ⟨some d, .buildSlice ty len parts.toArray, t, pos, af, none⟩ := by rfl) (E : ElS c.P ty e 1 := by infer_instance) (Z : TyZ c.P e z := by infer_instance) (hr : (parts.all fun p => inR c.n p.2) = true := by rfl) (hi : seqIdx 0 parts = true := by rfl) (hl : Nat.beq len parts.length = true := by rfl)
    (hlen : Nat.ble len 16777216 = true := by rfl) (hC : argsOf ρ (parts.map (·.2)) = C := by repeat (first | exact aNil | (apply aCons; first | exact evU rfl | exact evB rfl | exact evI rfl | exact evP rfl | exact evA rfl | exact evS rfl | exact ev8 rfl | exact evF rfl | exact evT rfl | exact evG rfl | rfl))) (h1 : C.all one1 = true := by rfl) (hS : ∀ w, Sat c.w0 c.B H w → Sat c.w0 c.B Hs w := by exact hsub)
    (k : ∀ b, SD c R s ops Hs fin lo (upd ρ d (.slice (some ⟨b, 0, none⟩) len len)) (cell b e C :: H)) : SD c R s ops Hs fin ((i, false) :: lo) ρ H := SD.o ho (OpR.bs1 (E := E) (Z := Z) hr hi hl hlen hC h1 fun b => ⟨fun w hw => hS w (Sat.drop hw), k b⟩)
/-- the last stores -/
theorem SD.s1 {x y : Operand} {b i' : Nat} {ty ty' : TypeId} {C : List Value} {k : List Value → List As} {v : Value} (ho : ops[i]? = some ⟨none, .store ty x y, t, pos, af, none⟩ := by rfl) (hf : fin i = true := by rfl) (hr : inR c.n x = true := by rfl) (hr1 : inR c.n y = true := by rfl) (hx : ev ρ x = ptr b 0 i' := by rfl) (T : TyS c.P ty 1 false := by infer_instance) (I : InH H b ty' C k := by infer_instance)
    (hv : ev ρ y = v := by rfl) (hl : Nat.ble (i' + 1) C.length = true := by rfl) (ho1 : one1 v = true := by first | rfl | exact one1_ptr _ _ _) (kk : SD c R s ops Hs fin lo ρ (k (C.set i' v))) : SD c R s ops Hs fin ((i, false) :: lo) ρ H := SD.f ho hf (OpR.store1 (T := T) (I := I) hr hr1 hx hv hl ho1 kk)
theorem SD.sN {x y : Operand} {b i' n : Nat} {g : Bool} {ty ty' : TypeId} {C vs : List Value} {k : List Value → List As} {v : Value} (ho : ops[i]? = some ⟨none, .store ty x y, t, pos, af, none⟩ := by rfl) (hf : fin i = true := by rfl) (hr : inR c.n x = true := by rfl) (hr1 : inR c.n y = true := by rfl) (hx : ev ρ x = ptr b 0 i' := by rfl) (T : TyS c.P ty n g := by infer_instance) (I : InH H b ty' C k := by infer_instance)
    (hv : ev ρ y = v := by rfl) (hc : v.cells = ⟨vs⟩ := by rfl) (hn : Nat.beq vs.length n = true := by rfl) (hl : Nat.ble (i' + n) C.length = true := by rfl) (ho1 : vs.all one1 = true := by rfl) (kk : SD c R s ops Hs fin lo ρ (k (setL C i' vs))) : SD c R s ops Hs fin ((i, false) :: lo) ρ H := SD.f ho hf (OpR.storeL (T := T) (I := I) hr hr1 hx hv hc hn hl ho1 kk)
/-- a store that others follow: what it changes is no part of Hs -/
theorem SD.t1 {x y : Operand} {b i' : Nat} {ty ty' : TypeId} {C : List Value} {k : List Value → List As} {v : Value} (ho : ops[i]? = some ⟨none, .store ty x y, t, pos, af, none⟩ := by rfl) (hr : inR c.n x = true := by rfl) (hr1 : inR c.n y = true := by rfl) (hx : ev ρ x = ptr b 0 i' := by rfl) (T : TyS c.P ty 1 false := by infer_instance) (I : InH H b ty' C k := by infer_instance)
    (hv : ev ρ y = v := by rfl) (hl : Nat.ble (i' + 1) C.length = true := by rfl) (ho1 : one1 v = true := by first | rfl | exact one1_ptr _ _ _) (hS : ∀ w, Sat c.w0 c.B (k (C.set i' v)) w → Sat c.w0 c.B Hs w := by exact hsub) (kk : SD c R s ops Hs fin lo ρ (k (C.set i' v))) : SD c R s ops Hs fin ((i, false) :: lo) ρ H := SD.o ho (OpR.store1 (T := T) (I := I) hr hr1 hx hv hl ho1 ⟨hS, kk⟩)
theorem SD.tN {x y : Operand} {b i' n : Nat} {g : Bool} {ty ty' : TypeId} {C vs : List Value} {k : List Value → List As} {v : Value} (ho : ops[i]? = some ⟨none, .store ty x y, t, pos, af, none⟩ := by rfl) (hr : inR c.n x = true := by rfl) (hr1 : inR c.n y = true := by rfl) (hx : ev ρ x = ptr b 0 i' := by rfl) (T : TyS c.P ty n g := by infer_instance) (I : InH H b ty' C k := by infer_instance)
    (hv : ev ρ y = v := by rfl) (hc : v.cells = ⟨vs⟩ := by rfl) (hn : Nat.beq vs.length n = true := by rfl) (hl : Nat.ble (i' + n) C.length = true := by rfl) (ho1 : vs.all one1 = true := by rfl) (hS : ∀ w, Sat c.w0 c.B (k (setL C i' vs)) w → Sat c.w0 c.B Hs w := by exact hsub) (kk : SD c R s ops Hs fin lo ρ (k (setL C i' vs))) : SD c R s ops Hs fin ((i, false) :: lo) ρ H := SD.o ho (OpR.storeL (T := T) (I := I) hr hr1 hx hv hc hn hl ho1 ⟨hS, kk⟩)
/-- a program whose statements may be mixed -/
class Mix (P : Program) : Prop where
  mix : P.follows .mixedOrders = true
theorem SC.rd [PQ R] [M : Mix c.P] {id : Nat} {ol : List Oper} (fin : Nat → Bool) (order : List (Nat × Bool)) (h : SD c R s ol.toArray H fin order ρ H) (hs : Region.noSelect ol.toArray = true := by kernel_rfl)
    (hok : ordOkM ol.toArray fin order = true := by kernel_rfl) (hl : Nat.ble order.length ol.toArray.size = true := by kernel_rfl) : SC c R s (.region id ol.toArray true) ρ H :=
  SC.regionD H fin order M.mix hs hok hl (fun _ h => h) h
theorem SC.rdh [PQ R] [M : Mix c.P] {id : Nat} {ol : List Oper} (Hs : List As) (fin : Nat → Bool) (order : List (Nat × Bool)) (h : SD c R s ol.toArray Hs fin order ρ H) (hS : ∀ w, Sat c.w0 c.B H w → Sat c.w0 c.B Hs w := by exact hsub) (hs : Region.noSelect ol.toArray = true := by kernel_rfl)
    (hok : ordOkM ol.toArray fin order = true := by kernel_rfl) (hl : Nat.ble order.length ol.toArray.size = true := by kernel_rfl) : SC c R s (.region id ol.toArray true) ρ H :=
  SC.regionD Hs fin order M.mix hs hok hl hS h
abbrev tk (i : Nat) : Nat × Bool := (i, true)
abbrev al (i : Nat) : Nat × Bool := (i, false)
theorem SL.bs {ty e : TypeId} {len : Nat} {parts : List (Nat × Operand)} {C : List Value} {z : Value} [E : ElS c.P ty e 1] [Z : TyZ c.P e z] (hr : (parts.all fun p => inR c.n p.2) = true := by rfl) (hi : seqIdx 0 parts = true := by rfl) (hl : Nat.beq len parts.length = true := by rfl)
    (hlen : Nat.ble len 16777216 = true := by rfl) (hC : argsOf ρ (parts.map (·.2)) = C := by repeat (first | exact aNil | (apply aCons; first | exact evU rfl | exact evB rfl | exact evI rfl | exact evP rfl | exact evA rfl | exact evS rfl | exact ev8 rfl | exact evF rfl | exact evT rfl | exact evG rfl | rfl))) (h1 : C.all one1 = true := by rfl)
    (k : ∀ b, SL c R s ops l (upd ρ d (.slice (some ⟨b, 0, none⟩) len len)) (cell b e C :: H)) : SL c R s ops (⟨some d, .buildSlice ty len parts.toArray, t, pos, af, none⟩ :: l) ρ H := SL.cons (OpR.bs1 hr hi hl hlen hC h1 k)
theorem SL.s1 {x y : Operand} {b i : Nat} {ty ty' : TypeId} {C : List Value} {k : List Value → List As} {v : Value} [T : TyS c.P ty 1 false] (hr : inR c.n x = true := by rfl) (hr1 : inR c.n y = true := by rfl) (hx : ev ρ x = ptr b 0 i := by rfl) (I : InH H b ty' C k := by infer_instance)
    (hv : ev ρ y = v := by rfl) (hl : Nat.ble (i + 1) C.length = true := by rfl) (ho : one1 v = true := by first | rfl | exact one1_ptr _ _ _) (kk : SL c R s ops l ρ (k (C.set i v))) :
    SL c R s ops (⟨none, .store ty x y, t, pos, af, none⟩ :: l) ρ H := SL.cons (OpR.store1 (I := I) hr hr1 hx hv hl ho kk)
theorem SL.sN {x y : Operand} {b i n : Nat} {g : Bool} {ty ty' : TypeId} {C vs : List Value} {k : List Value → List As} {v : Value} [T : TyS c.P ty n g] (hr : inR c.n x = true := by rfl) (hr1 : inR c.n y = true := by rfl) (hx : ev ρ x = ptr b 0 i := by rfl) (I : InH H b ty' C k := by infer_instance)
    (hv : ev ρ y = v := by rfl) (hc : v.cells = ⟨vs⟩ := by rfl) (hn : Nat.beq vs.length n = true := by rfl) (hl : Nat.ble (i + n) C.length = true := by rfl) (ho : vs.all one1 = true := by rfl) (kk : SL c R s ops l ρ (k (setL C i vs))) :
    SL c R s ops (⟨none, .store ty x y, t, pos, af, none⟩ :: l) ρ H := SL.cons (OpR.storeL (I := I) hr hr1 hx hv hc hn hl ho kk)
theorem SL.callG {f : FuncId} {a : List Operand} {vs : List Value} {tys : Array TypeId} {r : Value} [F : FnB c.P f] {gi gd : Nat} {want G : Bool} (hc : G = true → ∀ w, Sat c.w0 c.B H w → Pure c.P f vs.toArray r w) (hd : (ops[gi]?).bind (·.dst) = some gd := by rfl) (hn : Nat.blt gd c.n = true := by rfl) (hG : GdOf (ρ gd) want G := by first | exact .one rfl | exact .two rfl)
    (hr : inRs c.n a = true := by rfl) (hv : G = true → argsOf ρ a = vs := by (intro hG; try rw [hG]); (try simp only [gv_tt]); rfl)
    (k : SL c R s ops l (upd ρ d (gv G r)) H) : SL c R s ops (⟨some d, .call ⟨.value (.func f), a.toArray, tys⟩, t, pos, af, some (gi, want)⟩ :: l) ρ H := SL.cons (OpR.callG hd hn hG hr hv hc k)
theorem SL.callC {x : Operand} {f : FuncId} {vs cs : List Value} {a : List Operand} {tys : Array TypeId} {r : Value} [F : FnB c.P f] (hc : ∀ w, Sat c.w0 c.B H w → Pure c.P f (vs ++ cs).toArray r w) (hx : ev ρ x = .func (.func f) #[] cs.toArray := by rfl) (hrx : inR c.n x = true := by rfl) (hr : inRs c.n a = true := by rfl) (hv : argsOf ρ a = vs := by rfl)
    (k : SL c R s ops l (upd ρ d r) H) : SL c R s ops (⟨some d, .call ⟨.value x, a.toArray, tys⟩, t, pos, af, none⟩ :: l) ρ H := SL.cons (OpR.callC hrx hx hr hv hc k)
theorem SD.callC {x : Operand} {f : FuncId} {vs cs : List Value} {a : List Operand} {tys : Array TypeId} {r : Value} [F : FnB c.P f] (hc : ∀ w, Sat c.w0 c.B H w → Pure c.P f (vs ++ cs).toArray r w) (ho : ops[i]? = some ⟨some d, .call ⟨.value x, a.toArray, tys⟩, t, pos, af, none⟩ := by rfl) (hx : ev ρ x = .func (.func f) #[] cs.toArray := by rfl) (hrx : inR c.n x = true := by rfl) (hr : inRs c.n a = true := by rfl) (hv : argsOf ρ a = vs := by rfl) (hS : ∀ w, Sat c.w0 c.B H w → Sat c.w0 c.B Hs w := by exact hsub)
    (k : SD c R s ops Hs fin lo (upd ρ d r) H) : SD c R s ops Hs fin ((i, false) :: lo) ρ H := SD.o ho (OpR.callC hrx hx hr hv hc ⟨hS, k⟩)
theorem BRow.of_in {b : Nat} {ty : TypeId} {C : List Value} {k : List Value → List As} {w0 : World} {B : Nat} {w w' : World} [I : InH H b ty C k] (h : Sat w0 B H w) (hb : Below w.heap.size w w') : BRow w' w'.heap.size b 0 C := by
  have h1 := (InH.get (i := I) (h.below hb)).1
  have hlt : b < w'.heap.size := by
    rcases Nat.lt_or_ge b w'.heap.size with h' | h'
    · exact h'
    · rw [Array.getElem?_eq_none h'] at h1; cases h1
  exact ⟨fun _ => hlt, fun i v hv => by simp [World.cell?, h1, hv]⟩
theorem SL.callS {f : FuncId} {a : List Operand} {vs : List Value} {tys : Array TypeId} {n sz : Nat} {e : TypeId} {C : List Value} [F : FnB c.P f] (hc : ∀ w, Sat c.w0 c.B H w → PureS c.P f vs.toArray n e sz C w) (hr : inRs c.n a = true := by rfl) (hv : argsOf ρ a = vs := by rfl)
    (k : ∀ v, SL c R s ops l (upd ρ d v) (own v n e sz C :: H)) : SL c R s ops (⟨some d, .call ⟨.value (.func f), a.toArray, tys⟩, t, pos, af, none⟩ :: l) ρ H := SL.cons (OpR.callS hr hv hc k)
theorem SL.app {x y : Operand} {v u : Value} {n m sz bytes : Nat} {e ty : TypeId} {xs C : List Value} {kk : Value → Nat → List Value → List As} {tys : Array TypeId} (hr : inR c.n x = true := by rfl) (hr1 : inR c.n y = true := by rfl) (hx : ev ρ x = v := by rfl) (O : InOwn H v n e sz xs kk := by infer_instance) (hy : ev ρ y = u := by rfl)
    (hS : ∀ w, Sat c.w0 c.B H w → Rd w u m sz C := by (intro w hw; exact InH.rd hw rfl)) (ht : tys = #[ty, ty] := by rfl) (T : SlT c.P ty e sz bytes := by infer_instance) (h1 : C.all one1 = true := by rfl) (hn : n + m ≤ maxLen ∧ (n + m) * bytes ≤ 140737488355328 := by (simp only [maxLen]; omega))
    (k : ∀ v', SL c R s ops l (upd ρ d v') (kk v' (n + m) (xs ++ C))) : SL c R s ops (⟨some d, .call ⟨.builtin .append, #[x, y], tys⟩, t, pos, af, none⟩ :: l) ρ H := SL.cons (OpR.appendR (T := T) hr hr1 hx O hy hS ht h1 hn k)
/-- a guarded operation, its two cases apart -/
theorem SL.gs {gi gd : Nat} {want G : Bool} (h1 : G = true → SL c R s ops (⟨some d, op, t, pos, af, none⟩ :: l) ρ H) (h0 : G = false → SL c R s ops l (upd ρ d undef) H)
    (hd : (ops[gi]?).bind (·.dst) = some gd := by rfl) (hn : Nat.blt gd c.n = true := by rfl) (hG : GdOf (ρ gd) want G := by first | exact .one rfl | exact .two rfl) :
    SL c R s ops (⟨some d, op, t, pos, af, some (gi, want)⟩ :: l) ρ H := SL.gsplit hd hn hG h1 h0
/-- one step that only takes the code apart -/
class Nx (G : Prop) (G' : outParam Prop) : Prop where
  imp : G' → G
theorem nx {G G' : Prop} [i : Nx G G'] (h : G') : G := i.imp h
theorem SC.cd {o : Operand} {x y : Code} {t : Bool} (h1 : t = true → SC c R s x ρ H) (h2 : ¬ t = true → SC c R s y ρ H) (hr : inR c.n o = true := by rfl) (ho : ev ρ o = .bool t := by rfl) : SC c R s (.cond o x y) ρ H :=
  SC.cond hr ho h1 (fun h => h2 (by rw [h]; decide))
theorem SC.sk {y : Code} (h : SC c R s y ρ H) : SC c R (.seq y :: s) .skip ρ H := SC.skip (SN.seqN h)
instance {y : Code} : Nx (SL c R (.seq y :: s) ops [] ρ H) (SC c R s y ρ H) := ⟨SL.n⟩
instance {id : Nat} : Nx (SL c R (.blk id :: s) ops [] ρ H) (SN c R s .normal ρ H) := ⟨fun h => SL.nil (SN.blkN h)⟩
instance {I : Act → World → Prop} : Nx (SL c R (.lp I :: s) ops [] ρ H) (SN c R (.lp I :: s) .normal ρ H) := ⟨SL.nil⟩
instance : Nx (SL c R [] ops [] ρ H) (SN c R [] .normal ρ H) := ⟨SL.nil⟩
instance {y : Code} : Nx (SN c R (.seq y :: s) .normal ρ H) (SC c R s y ρ H) := ⟨SN.seqN⟩
instance {id : Nat} : Nx (SN c R (.blk id :: s) .normal ρ H) (SN c R s .normal ρ H) := ⟨SN.blkN⟩
instance {y : Code} : Nx (SN c R (.seq y :: s) .ret ρ H) (SN c R s .ret ρ H) := ⟨SN.seqR⟩
instance {id : Nat} : Nx (SN c R (.blk id :: s) .ret ρ H) (SN c R s .ret ρ H) := ⟨SN.blkR⟩
instance {I : Act → World → Prop} : Nx (SN c R (.lp I :: s) .ret ρ H) (SN c R s .ret ρ H) := ⟨SN.lpR⟩
instance {y : Code} {id : Nat} : Nx (SN c R (.seq y :: s) (.exit id) ρ H) (SN c R s (.exit id) ρ H) := ⟨SN.seqX⟩
instance {I : Act → World → Prop} {id : Nat} : Nx (SN c R (.lp I :: s) (.exit id) ρ H) (SN c R s (.exit id) ρ H) := ⟨SN.lpX⟩
instance {id : Nat} : Nx (SN c R (.blk id :: s) (.exit id) ρ H) (SN c R s .normal ρ H) := ⟨SN.blkX⟩
instance {x y : Code} : Nx (SC c R s (.seq x y) ρ H) (SC c R (.seq y :: s) x ρ H) := ⟨SC.seq⟩
instance {id : Nat} {x : Code} : Nx (SC c R s (.block id x) ρ H) (SC c R (.blk id :: s) x ρ H) := ⟨SC.block⟩
instance {id : Nat} {a : List Oper} : Nx (SC c R s (.region id a.toArray false) ρ H) (SL c R s a.toArray a ρ H) := ⟨SC.region⟩
instance : Nx (SC c R s .skip ρ H) (SN c R s .normal ρ H) := ⟨SC.skip⟩
instance : Nx (SC c R s .ret ρ H) (SN c R s .ret ρ H) := ⟨SC.ret⟩
instance {id : Nat} : Nx (SC c R s (.exit id) ρ H) (SN c R s (.exit id) ρ H) := ⟨SC.exit⟩
/-- out of a block that is not the one -/
theorem SN.bx {id id' : Nat} (h : SN c R s (.exit id') ρ H) (hne : Nat.beq id' id = false := by rfl) : SN c R (.blk id :: s) (.exit id') ρ H := SN.blkY hne h
end
end Go.Eng
