/- Part of a proof: the tools that its last text leans on (RE1). -/
import Derived.Test.YtehhdfocecbcpaaGreatEng
namespace Go.RE
open Go Go.RowKit Go.Eng

/-! ### values with named blocks -/
inductive AV where
  | v (x : Value)
  | p (k off : Nat)
  | s (k off len : Nat) (cap : Option Nat)
  | m (k : Nat)
  | f (fn : Fn) (cs : List AV)
  | a (cs : List AV)
  | t (cs : List AV)

/-- names to blocks and capacities -/
abbrev Env := Nat → Nat × Nat
mutual
def AV.emb (E : Env) : AV → Value
  | .v x => x
  | .p k off => .pointer (some ⟨(E k).1, off, none⟩)
  | .s k off len none => .slice (some ⟨(E k).1, off, none⟩) len (E k).2
  | .s k off len (some c) => .slice (some ⟨(E k).1, off, none⟩) len c
  | .m k => .map (some (E k).1)
  | .f fn cs => .func fn #[] ⟨embL E cs⟩
  | .a cs => .agg ⟨embL E cs⟩
  | .t cs => .tuple ⟨embL E cs⟩
def embL (E : Env) : List AV → List Value
  | [] => []
  | x :: l => x.emb E :: embL E l
end
mutual
def AV.lt (N : Nat) : AV → Prop
  | .v _ => True
  | .p k _ => k < N
  | .s k _ _ _ => k < N
  | .m k => k < N
  | .f _ cs => ltL N cs
  | .a cs => ltL N cs
  | .t cs => ltL N cs
def ltL (N : Nat) : List AV → Prop
  | [] => True
  | x :: l => x.lt N ∧ ltL N l
end
theorem embL_map (E : Env) : ∀ l, embL E l = l.map (AV.emb E)
  | [] => by simp [embL]
  | x :: l => by simp [embL, embL_map E l]
theorem ltL_iff {N : Nat} : ∀ {l}, ltL N l ↔ ∀ x ∈ l, x.lt N
  | [] => by simp [ltL]
  | x :: l => by simp [ltL, ltL_iff (l := l)]
mutual
theorem AV.emb_congr {E E' : Env} {N : Nat} (h : ∀ k, k < N → E' k = E k) : ∀ x : AV, x.lt N → x.emb E' = x.emb E
  | .v _, _ => by simp only [AV.emb]
  | .p k _, hx => by simp only [AV.lt] at hx; simp only [AV.emb, h k hx]
  | .s k _ _ none, hx => by simp only [AV.lt] at hx; simp only [AV.emb, h k hx]
  | .s k _ _ (some _), hx => by simp only [AV.lt] at hx; simp only [AV.emb, h k hx]
  | .m k, hx => by simp only [AV.lt] at hx; simp only [AV.emb, h k hx]
  | .f _ cs, hx => by simp only [AV.lt] at hx; simp only [AV.emb, embL_congr h cs hx]
  | .a cs, hx => by simp only [AV.lt] at hx; simp only [AV.emb, embL_congr h cs hx]
  | .t cs, hx => by simp only [AV.lt] at hx; simp only [AV.emb, embL_congr h cs hx]
theorem embL_congr {E E' : Env} {N : Nat} (h : ∀ k, k < N → E' k = E k) : ∀ l : List AV, ltL N l → embL E' l = embL E l
  | [], _ => by simp only [embL]
  | x :: l, hx => by simp only [ltL] at hx; simp only [embL, AV.emb_congr h x hx.1, embL_congr h l hx.2]
end
mutual
theorem AV.lt_mono {N N' : Nat} (h : N ≤ N') : ∀ x : AV, x.lt N → x.lt N'
  | .v _, _ => by simp only [AV.lt]
  | .p k _, hx => by simp only [AV.lt] at *; omega
  | .s k _ _ _, hx => by simp only [AV.lt] at *; omega
  | .m k, hx => by simp only [AV.lt] at *; omega
  | .f _ cs, hx => by simp only [AV.lt] at *; exact ltL_mono h cs hx
  | .a cs, hx => by simp only [AV.lt] at *; exact ltL_mono h cs hx
  | .t cs, hx => by simp only [AV.lt] at *; exact ltL_mono h cs hx
theorem ltL_mono {N N' : Nat} (h : N ≤ N') : ∀ l : List AV, ltL N l → ltL N' l
  | [], _ => by simp only [ltL]
  | x :: l, hx => by simp only [ltL] at *; exact ⟨AV.lt_mono h x hx.1, ltL_mono h l hx.2⟩
end
theorem embL_length (E : Env) (l : List AV) : (embL E l).length = l.length := by rw [embL_map]; simp
theorem embL_get {E : Env} {l : List AV} {i : Nat} {x : AV} (h : l[i]? = some x) : (embL E l)[i]? = some (x.emb E) := by rw [embL_map]; simp [h]
theorem embL_get' {E : Env} {l : List AV} {i : Nat} : (embL E l)[i]? = (l[i]?).map (AV.emb E) := by rw [embL_map]; simp
theorem embL_append {E : Env} {l l' : List AV} : embL E (l ++ l') = embL E l ++ embL E l' := by simp [embL_map]
theorem ltL_append {N : Nat} {l l' : List AV} : ltL N (l ++ l') ↔ ltL N l ∧ ltL N l' := by
  simp only [ltL_iff, List.mem_append]; exact ⟨fun h => ⟨fun x hx => h x (.inl hx), fun x hx => h x (.inr hx)⟩, fun h x hx => hx.elim (h.1 x) (h.2 x)⟩
theorem ltL_get {N : Nat} {l : List AV} {i : Nat} {x : AV} (h : ltL N l) (hx : l[i]? = some x) : x.lt N := ltL_iff.1 h x (List.mem_of_getElem? hx)

/-- the cells that a value fills -/
def AV.cells : AV → List AV
  | .a cs => cs
  | .v (.agg ⟨l⟩) => l.map .v
  | x => [x]
theorem AV.cells_emb (E : Env) (x : AV) : (x.emb E).cells = ⟨embL E x.cells⟩ := by
  cases x with
  | v x =>
    cases x with
    | agg cs => obtain ⟨l⟩ := cs; simp only [AV.cells, AV.emb, Value.cells, embL_map, List.map_map]; congr 1; induction l with
      | nil => rfl
      | cons x l ih => simp only [List.map_cons, Function.comp, AV.emb]; rw [← ih]
    | _ => simp [AV.cells, AV.emb, Value.cells, embL]
  | a cs => simp [AV.cells, AV.emb, Value.cells]
  | s k o l c => cases c <;> simp [AV.cells, AV.emb, Value.cells, embL]
  | _ => simp [AV.cells, AV.emb, Value.cells, embL]
theorem AV.cells_lt {N : Nat} {x : AV} (h : x.lt N) : ltL N x.cells := by
  cases x with
  | v x =>
    cases x with
    | agg cs => obtain ⟨l⟩ := cs; simp only [AV.cells]; rw [ltL_iff]; intro y hy; obtain ⟨z, _, rfl⟩ := List.mem_map.1 hy; simp [AV.lt]
    | _ => simp [AV.cells, ltL, AV.lt]
  | a cs => simpa [AV.cells, AV.lt] using h
  | _ => simpa [AV.cells, AV.lt, ltL] using h
/-- fills one cell -/
def AV.one : AV → Bool
  | .a _ => false
  | .t _ => false
  | .v x => one1 x
  | _ => true
theorem AV.one_emb {E : Env} {x : AV} (h : x.one = true) : one1 (x.emb E) = true := by
  cases x with
  | v x => exact h
  | s k o l c => cases c <;> simp [AV.emb, one1]
  | a cs => simp [AV.one] at h
  | t cs => simp [AV.one] at h
  | _ => simp [AV.emb, one1]
theorem allOne_emb {E : Env} {l : List AV} (h : l.all AV.one = true) : (embL E l).all one1 = true := by
  rw [embL_map, List.all_map]
  rw [List.all_eq_true] at h ⊢
  intro x hx
  exact AV.one_emb (h x hx)
/- a value that names no block -/
mutual
def AV.val : AV → Option Value
  | .v x => some x
  | .a cs => (valL cs).map fun l => .agg ⟨l⟩
  | .t cs => (valL cs).map fun l => .tuple ⟨l⟩
  | .f fn cs => (valL cs).map fun l => .func fn #[] ⟨l⟩
  | _ => none
def valL : List AV → Option (List Value)
  | [] => some []
  | x :: l => match x.val with
    | some y => match valL l with
      | some r => some (y :: r)
      | none => none
    | none => none
end
mutual
theorem AV.val_emb (E : Env) : ∀ (x : AV) (y : Value), x.val = some y → x.emb E = y
  | .v x, y, h => by simp only [AV.val, Option.some.injEq] at h; simp only [AV.emb, h]
  | .a cs, y, h => by
    simp only [AV.val, Option.map_eq_some_iff] at h
    obtain ⟨l, hl, rfl⟩ := h
    simp only [AV.emb, valL_emb E cs l hl]
  | .t cs, y, h => by
    simp only [AV.val, Option.map_eq_some_iff] at h
    obtain ⟨l, hl, rfl⟩ := h
    simp only [AV.emb, valL_emb E cs l hl]
  | .p _ _, y, h => by simp [AV.val] at h
  | .s _ _ _ _, y, h => by simp [AV.val] at h
  | .m _, y, h => by simp [AV.val] at h
  | .f fn cs, y, h => by
    simp only [AV.val, Option.map_eq_some_iff] at h
    obtain ⟨l, hl, rfl⟩ := h
    simp only [AV.emb, valL_emb E cs l hl]
theorem valL_emb (E : Env) : ∀ (l : List AV) (r : List Value), valL l = some r → embL E l = r
  | [], r, h => by simp only [valL, Option.some.injEq] at h; simp only [embL, h]
  | x :: l, r, h => by
    simp only [valL] at h
    cases hx : x.val with
    | none => simp [hx] at h
    | some y =>
      cases hl : valL l with
      | none => simp [hx, hl] at h
      | some r' =>
        simp only [hx, hl, Option.some.injEq] at h
        simp only [embL, AV.val_emb E x y hx, valL_emb E l r' hl, h]
end

/-! ### tables -/
inductive T (α : Type) where
  | e
  | n (l : T α) (x : Option α) (r : T α)
  | c (k : Nat) (x : Option α) (t : T α)
namespace T
variable {α β : Type}
def get : T α → Nat → Option α
  | .e, _ => none
  | .n l x r, k => match k with
    | 0 => x
    | k + 1 => bif Nat.beq (k % 2) 0 then l.get (k / 2) else r.get (k / 2)
  | .c k' x t, k => bif Nat.beq k k' then x else t.get k
/-- with the head laid open -/
def frc (t : T α) (f : T α → β) : β := match t with
  | .e => f .e
  | .n l x r => f (.n l x r)
  | .c k x t => f (.c k x t)
theorem frc_eq (t : T α) (f : T α → β) : t.frc f = f t := by cases t <;> rfl
def set : Nat → T α → Nat → Option α → T α
  | 0, t, k, x => .c k x t
  | f + 1, .e, k, x => match k with
    | 0 => .n .e x .e
    | k + 1 => bif Nat.beq (k % 2) 0 then (set f .e (k / 2) x).frc fun l => .n l none .e else (set f .e (k / 2) x).frc fun r => .n .e none r
  | f + 1, .n l y r, k, x => match k with
    | 0 => .n l x r
    | k + 1 => bif Nat.beq (k % 2) 0 then (set f l (k / 2) x).frc fun l => .n l y r else (set f r (k / 2) x).frc fun r => .n l y r
  | _ + 1, .c k' y t, k, x => .c k x (.c k' y t)
theorem get_e (k : Nat) : (e : T α).get k = none := by simp [get]
theorem beq_false {a b : Nat} (h : Nat.beq a b = false) : a ≠ b := fun e => by subst e; simp at h
theorem get_set : ∀ (f : Nat) (t : T α) (k : Nat) (x : Option α) (j : Nat), (set f t k x).get j = if j = k then x else t.get j := by
  intro f
  induction f with
  | zero =>
    intro t k x j
    simp only [set, get]
    cases hb : Nat.beq j k with
    | true => rw [if_pos (Nat.eq_of_beq_eq_true hb)]; rfl
    | false => rw [if_neg (beq_false hb)]; rfl
  | succ f ih =>
    intro t k x j
    cases t with
    | e =>
      cases k with
      | zero => cases j <;> simp [set, get]
      | succ k =>
        simp only [set, frc_eq]
        cases hk : Nat.beq (k % 2) 0
        · simp only [cond_false]
          cases j with
          | zero => simp [get]
          | succ j =>
            simp only [get, ih]
            cases hj : Nat.beq (j % 2) 0
            · have := beq_false hk; have := beq_false hj
              simp only [cond_false]
              by_cases h : j / 2 = k / 2
              · rw [if_pos h, if_pos (by omega)]
              · rw [if_neg h, if_neg (by omega)]
            · have := beq_false hk; have := Nat.eq_of_beq_eq_true hj
              simp only [cond_true]
              rw [if_neg (by omega)]
        · simp only [cond_true]
          cases j with
          | zero => simp [get]
          | succ j =>
            simp only [get, ih]
            cases hj : Nat.beq (j % 2) 0
            · have := Nat.eq_of_beq_eq_true hk; have := beq_false hj
              simp only [cond_false]
              rw [if_neg (by omega)]
            · have := Nat.eq_of_beq_eq_true hk; have := Nat.eq_of_beq_eq_true hj
              simp only [cond_true]
              by_cases h : j / 2 = k / 2
              · rw [if_pos h, if_pos (by omega)]
              · rw [if_neg h, if_neg (by omega)]
    | n l y r =>
      cases k with
      | zero => cases j <;> simp [set, get]
      | succ k =>
        simp only [set, frc_eq]
        cases hk : Nat.beq (k % 2) 0
        · simp only [cond_false]
          cases j with
          | zero => simp [get]
          | succ j =>
            simp only [get, ih]
            cases hj : Nat.beq (j % 2) 0
            · have := beq_false hk; have := beq_false hj
              simp only [cond_false]
              by_cases h : j / 2 = k / 2
              · rw [if_pos h, if_pos (by omega)]
              · rw [if_neg h, if_neg (by omega)]
            · have := beq_false hk; have := Nat.eq_of_beq_eq_true hj
              simp only [cond_true]
              rw [if_neg (by omega)]
        · simp only [cond_true]
          cases j with
          | zero => simp [get]
          | succ j =>
            simp only [get, ih]
            cases hj : Nat.beq (j % 2) 0
            · have := Nat.eq_of_beq_eq_true hk; have := beq_false hj
              simp only [cond_false]
              rw [if_neg (by omega)]
            · have := Nat.eq_of_beq_eq_true hk; have := Nat.eq_of_beq_eq_true hj
              simp only [cond_true]
              by_cases h : j / 2 = k / 2
              · rw [if_pos h, if_pos (by omega)]
              · rw [if_neg h, if_neg (by omega)]
    | c k' y t =>
      simp only [set, get]
      cases hb : Nat.beq j k with
      | true => rw [if_pos (Nat.eq_of_beq_eq_true hb)]; rfl
      | false => rw [if_neg (beq_false hb)]; rfl
end T

/-! ### the call's own memory -/
inductive Blk where
  | c (ty : TypeId) (cs : List AV)
  | o (ty sz n : Nat) (cs : List AV)
  | mp
def Blk.cells : Blk → List AV
  | .c _ cs => cs
  | .o _ _ _ cs => cs
  | .mp => []
def Blk.lt (N : Nat) (b : Blk) : Prop := ltL N b.cells
def Blk.holds (E : Env) (k : Nat) (w : World) : Blk → Prop
  | .c ty cs => w.heap[(E k).1]? = some (.cells ⟨embL E cs⟩ ty (0, 0))
  | .o ty sz n cs => w.ownsRow 0 ty sz (.slice (some ⟨(E k).1, 0, none⟩) n (E k).2) n (embL E cs)
  | .mp => w.heap[(E k).1]? = some (.map #[] 0)
structure AH where
  t : T Blk
  nx : Nat
  st : T Nat
  ck : Nat
def AH.get (h : AH) (k : Nat) : Option Blk := h.t.get k
structure RH (E : Env) (h : AH) (w : World) : Prop where
  key : ∀ k x, h.get k = some x → k < h.nx
  lt : ∀ k x, h.get k = some x → x.lt h.nx
  sz : ∀ k x, h.get k = some x → (E k).1 < w.heap.size
  holds : ∀ k x, h.get k = some x → x.holds E k w
  inj : ∀ k x k' x', h.get k = some x → h.get k' = some x' → (E k').1 = (E k).1 → k' = k
/-- the step from one state to a later one -/
structure Fr (E : Env) (h : AH) (w : World) (E' : Env) (h' : AH) (w' : World) : Prop where
  os : w'.os = w.os
  tape : w'.tape = w.tape
  output : w'.output = w.output
  size : w.heap.size ≤ w'.heap.size
  env : ∀ k, k < h.nx → E' k = E k
  nx : h.nx ≤ h'.nx
  frame : ∀ b, b < w.heap.size → (∀ k x, h.get k = some x → (E k).1 ≠ b) → w'.heap[b]? = w.heap[b]?
  foot : ∀ k x, h'.get k = some x → (∃ k0 x0, h.get k0 = some x0 ∧ (E k0).1 = (E' k).1) ∨ w.heap.size ≤ (E' k).1
theorem Fr.refl {E h w} : Fr E h w E h w := ⟨rfl, rfl, rfl, Nat.le_refl _, fun _ _ => rfl, Nat.le_refl _, fun _ _ _ => rfl, fun k x hx => .inl ⟨k, x, hx, rfl⟩⟩
theorem Fr.trans {E h w E' h' w' E'' h'' w''} (a : Fr E h w E' h' w') (b : Fr E' h' w' E'' h'' w'') : Fr E h w E'' h'' w'' where
  os := b.os.trans a.os
  tape := b.tape.trans a.tape
  output := b.output.trans a.output
  size := Nat.le_trans a.size b.size
  env := fun k hk => (b.env k (Nat.lt_of_lt_of_le hk a.nx)).trans (a.env k hk)
  nx := Nat.le_trans a.nx b.nx
  frame := fun q hq hn => by
    rw [← a.frame q hq hn]
    refine b.frame q (Nat.lt_of_lt_of_le hq a.size) fun k x hx he => ?_
    rcases a.foot k x hx with ⟨k0, x0, h0, h1⟩ | h1
    · exact hn k0 x0 h0 (h1.trans he)
    · omega
  foot := fun k x hx => by
    rcases b.foot k x hx with ⟨k0, x0, h0, h1⟩ | h1
    · rcases a.foot k0 x0 h0 with ⟨k1, x1, h2, h3⟩ | h2
      · exact .inl ⟨k1, x1, h2, h3.trans h1⟩
      · exact .inr (by omega)
    · exact .inr (Nat.le_trans a.size h1)
/-- block k was last turned at time c or before -/
def okS (h : AH) (k c : Nat) : Bool := match h.st.get k with
  | none => true
  | some s => Nat.ble s c
theorem okS_mono {h : AH} {k c c' : Nat} (hc : c ≤ c') (h1 : okS h k c = true) : okS h k c' = true := by
  unfold okS at *
  split
  · rfl
  · next s hs => rw [hs] at h1; exact Nat.ble_eq_true_of_le (Nat.le_trans (Nat.le_of_ble_eq_true h1) hc)
/-- what is known of a heap alone -/
structure Ext (h h' : AH) : Prop where
  nx : h.nx ≤ h'.nx
  ck : h.ck ≤ h'.ck
  get : ∀ k, k < h.nx → okS h' k h.ck = true → h'.get k = h.get k ∧ h'.st.get k = h.st.get k
theorem Ext.refl {h} : Ext h h := ⟨Nat.le_refl _, Nat.le_refl _, fun _ _ _ => ⟨rfl, rfl⟩⟩
theorem Ext.trans {h h' h''} (a : Ext h h') (b : Ext h' h'') : Ext h h'' :=
  ⟨Nat.le_trans a.nx b.nx, Nat.le_trans a.ck b.ck, fun k h1 h2 => by
    obtain ⟨b1, b2⟩ := b.get k (Nat.lt_of_lt_of_le h1 a.nx) (okS_mono a.ck h2)
    have h3 : okS h' k h.ck = true := by unfold okS at *; rw [← b2]; exact h2
    obtain ⟨a1, a2⟩ := a.get k h1 h3
    exact ⟨b1.trans a1, b2.trans a2⟩⟩

theorem Blk.holds_congr {E E' : Env} {N k : Nat} {w : World} {x : Blk} (h : ∀ k, k < N → E' k = E k) (hk : k < N) (hx : x.lt N) : x.holds E' k w ↔ x.holds E k w := by
  cases x with
  | c ty cs => simp only [Blk.holds, h k hk, embL_congr h cs hx]
  | o ty sz n cs => simp only [Blk.holds, h k hk, embL_congr h cs hx]
  | mp => simp only [Blk.holds, h k hk]
theorem RH.congr {E E' : Env} {h : AH} {w : World} (he : ∀ k, k < h.nx → E' k = E k) (r : RH E h w) : RH E' h w where
  key := r.key
  lt := r.lt
  sz := fun k x hx => by rw [he k (r.key k x hx)]; exact r.sz k x hx
  holds := fun k x hx => (Blk.holds_congr he (r.key k x hx) (r.lt k x hx)).2 (r.holds k x hx)
  inj := fun k x k' x' hx hx' e => by rw [he k (r.key k x hx), he k' (r.key k' x' hx')] at e; exact r.inj k x k' x' hx hx' e
theorem Blk.holds_frame {E : Env} {k : Nat} {w w' : World} {x : Blk} (h : w'.heap[(E k).1]? = w.heap[(E k).1]?) (hx : x.holds E k w) : x.holds E k w' := by
  cases x with
  | c ty cs => exact h.trans hx
  | mp => exact h.trans hx
  | o ty sz n cs =>
    obtain ⟨h1, h2⟩ := hx
    refine ⟨h1, ?_⟩
    rcases h2 with h2 | ⟨g, cap, cur, e, h3, h4, h5⟩
    · exact .inl h2
    · injection e with e1 e2 e3
      injection e1 with e1
      injection e1 with e1
      subst e1
      exact .inr ⟨_, cap, cur, by rw [e3], h3, h.trans h4, h5⟩
/-- reading a cell -/
theorem RH.cell {E h w k x i y} (r : RH E h w) (hx : h.get k = some x) (hy : x.cells[i]? = some y) : w.cell? ⟨(E k).1, i, none⟩ = some (y.emb E) := by
  have hh := r.holds k x hx
  cases x with
  | c ty cs =>
    simp only [Blk.holds] at hh
    simp only [Blk.cells] at hy
    simp [World.cell?, hh, embL_get hy]
  | o ty sz n cs =>
    have := World.ownsRow.cells (base := 0) hh rfl i (y.emb E) (embL_get hy)
    rw [add_mk, Nat.zero_add] at this
    exact this
  | mp => simp [Blk.cells] at hy

/-! a new block -/
def AH.new (h : AH) (b : Blk) : AH := ⟨T.set 30 h.t h.nx (some b), h.nx + 1, h.st, h.ck⟩
theorem AH.get_new {h : AH} {b : Blk} {k : Nat} : (h.new b).get k = if k = h.nx then some b else h.get k := by simp [AH.new, AH.get, T.get_set]
theorem Ext.new {h : AH} {b : Blk} : Ext h (h.new b) := ⟨by simp [AH.new], by simp [AH.new], fun k h1 h2 => ⟨by rw [AH.get_new, if_neg (by omega)], rfl⟩⟩
def eset (E : Env) (k : Nat) (v : Nat × Nat) : Env := fun j => if j = k then v else E j
theorem eset_lt {E : Env} {k : Nat} {v : Nat × Nat} : ∀ j, j < k → eset E k v j = E j := fun j hj => by simp [eset, Nat.ne_of_lt hj]
theorem RH.newBlk {E h w w' b q c} (r : RH E h w) (hb : b.lt h.nx) (hq : ∀ k x, h.get k = some x → (E k).1 ≠ q) (hs : w.heap.size ≤ w'.heap.size) (hql : q < w'.heap.size) (hf : ∀ k x, h.get k = some x → w'.heap[(E k).1]? = w.heap[(E k).1]?)
    (hh : b.holds (eset E h.nx (q, c)) h.nx w') : RH (eset E h.nx (q, c)) (h.new b) w' where
  key := fun k x hx => by
    rw [AH.get_new] at hx
    show k < h.nx + 1
    by_cases h1 : k = h.nx
    · omega
    · rw [if_neg h1] at hx; have := r.key k x hx; omega
  lt := fun k x hx => by
    rw [AH.get_new] at hx
    by_cases h1 : k = h.nx
    · rw [if_pos h1] at hx; injection hx with hx; subst hx; exact ltL_mono (Nat.le_succ _) _ hb
    · rw [if_neg h1] at hx; exact ltL_mono (Nat.le_succ _) _ (r.lt k x hx)
  sz := fun k x hx => by
    rw [AH.get_new] at hx
    by_cases h1 : k = h.nx
    · simp [eset, h1, hql]
    · rw [if_neg h1] at hx; simp only [eset, h1, if_false]; exact Nat.lt_of_lt_of_le (r.sz k x hx) hs
  holds := fun k x hx => by
    rw [AH.get_new] at hx
    by_cases h1 : k = h.nx
    · rw [if_pos h1] at hx; injection hx with hx; subst hx; subst h1; exact hh
    · rw [if_neg h1] at hx
      refine (Blk.holds_congr (N := h.nx) eset_lt (r.key k x hx) (r.lt k x hx)).2 ?_
      exact Blk.holds_frame (hf k x hx) (r.holds k x hx)
  inj := fun k x k' x' hx hx' e => by
    rw [AH.get_new] at hx hx'
    by_cases h1 : k = h.nx <;> by_cases h2 : k' = h.nx
    · omega
    · rw [if_neg h2] at hx'
      simp only [eset, h1, h2, if_true, if_false] at e
      exact absurd e (hq k' x' hx')
    · rw [if_neg h1] at hx
      simp only [eset, h1, h2, if_true, if_false] at e
      exact absurd e.symm (hq k x hx)
    · rw [if_neg h1] at hx; rw [if_neg h2] at hx'
      simp only [eset, h1, h2, if_false] at e
      exact r.inj k x k' x' hx hx' e
theorem RH.push {E h w b o c} (r : RH E h w) (hb : b.lt h.nx) (hh : b.holds (eset E h.nx (w.heap.size, c)) h.nx (w.alloc o)) :
    RH (eset E h.nx (w.heap.size, c)) (h.new b) (w.alloc o) ∧ Fr E h w (eset E h.nx (w.heap.size, c)) (h.new b) (w.alloc o) := by
  have hs : (w.alloc o).heap.size = w.heap.size + 1 := by show (w.heap.push _).size = _; simp
  refine ⟨r.newBlk hb (fun k x hx => Nat.ne_of_lt (r.sz k x hx)) (by omega) (by omega) (fun k x hx => Below.heap_alloc _ _ _ (r.sz k x hx)) hh, ⟨rfl, rfl, rfl, by omega, eset_lt, by simp [AH.new], fun b' hb' _ => Below.heap_alloc _ _ _ hb', fun k x hx => ?_⟩⟩
  rw [AH.get_new] at hx
  by_cases h1 : k = h.nx
  · subst h1; right; simp [eset]
  · rw [if_neg h1] at hx; left; exact ⟨k, x, hx, by simp [eset, h1]⟩
end Go.RE
