/- Part of a proof: the tools that its last text leans on (RE6). -/
import Derived.Test.YtehhdfocecbcpaaGreatRE5
namespace Go.RE
open Go Go.RowKit Go.Eng


/-! whatever order is picked; S is kept by every operation but the last ones -/
section
variable {P : Program} {ops : Array Oper} {Q : Exit → Act → World → Prop} {S : Nat → World → Prop} {keep : Nat → Nat → Bool}
def wpAnyG (P : Program) (ops : Array Oper) (Q : Exit → Act → World → Prop) (S : Nat → World → Prop) (keep : Nat → Nat → Bool) : Nat → Array Bool → Act → World → Prop
  | 0, listed, a, w => Region.ready .any ops listed = [] ∧ Q .normal a w
  | fuel + 1, listed, a, w =>
    (Region.ready .any ops listed = [] → Q .normal a w) ∧
    ∀ i ∈ Region.ready .any ops listed, wpOp P ops Q i (fun a' w' => (∀ q, keep q i = true → S q w → S q w') ∧ wpAnyG P ops Q S keep fuel (listed.setIfInBounds i true) a' w') a w
theorem wpAny_of_G : ∀ (fuel : Nat) (listed : Array Bool) (a : Act) (w : World), wpAnyG P ops Q S keep fuel listed a w → wpAny P .any ops Q fuel listed a w
  | 0, _, _, _, h => h
  | fuel + 1, _, _, _, h => ⟨h.1, fun i hi => wpOp_mono (fun a' w' h' => wpAny_of_G fuel _ a' w' h'.2) (h.2 i hi)⟩
theorem wpAnyG_fuel : ∀ (m n : Nat) (listed : Array Bool) (a : Act) (w : World), m ≤ n → wpAnyG P ops Q S keep m listed a w → wpAnyG P ops Q S keep n listed a w := by
  intro m
  induction m with
  | zero =>
    intro n listed a w _ h
    cases n with
    | zero => exact h
    | succ n => exact ⟨fun _ => h.2, by rw [h.1]; simp⟩
  | succ m ih =>
    intro n listed a w hmn h
    cases n with
    | zero => omega
    | succ n => exact ⟨h.1, fun i hi => wpOp_mono (fun a' w' hk => ⟨hk.1, ih n _ _ _ (by omega) hk.2⟩) (h.2 i hi)⟩
/-- i comes before j, directly or through others -/
inductive Anc (ops : Array Oper) (i : Nat) : Nat → Prop
  | dir {j : Nat} {oj : Oper} {e : Edge} (hj : ops[j]? = some oj) (he : e ∈ oj.after) (hb : Region.binds .any e = true) (hi : e.on = i) : Anc ops i j
  | st {j : Nat} {oj : Oper} {e : Edge} (hj : ops[j]? = some oj) (he : e ∈ oj.after) (hb : Region.binds .any e = true) (h : Anc ops i e.on) : Anc ops i j
/-- what is listed has all listed that it waits for -/
def Closed (ops : Array Oper) (listed : Array Bool) : Prop := ∀ k ok, ops[k]? = some ok → listed.getD k false = true → ∀ e ∈ ok.after, Region.binds .any e = true → listed.getD e.on false = true
theorem Closed.anc {listed : Array Bool} (hc : Closed ops listed) {i j : Nat} (h : Anc ops i j) : (∀ oj, ops[j]? = some oj → ∀ e ∈ oj.after, Region.binds .any e = true → listed.getD e.on false = true) → listed.getD i false = true := by
  induction h with
  | dir hj he hb hi => intro hr; rw [← hi]; exact hr _ hj _ he hb
  | st hj he hb h ih =>
    intro hr
    have := hr _ hj _ he hb
    exact ih fun oj hoj e' he' hb' => hc _ oj hoj this e' he' hb'
theorem getD_set_true {listed : Array Bool} {j k : Nat} (h : (listed.setIfInBounds j true).getD k false = true) : k = j ∨ listed.getD k false = true := by
  by_cases hjk : j = k
  · exact .inl hjk.symm
  · rw [getD_set_ne false hjk] at h; exact .inr h
theorem getD_mono {listed : Array Bool} {j k : Nat} (h : listed.getD k false = true) : (listed.setIfInBounds j true).getD k false = true := by
  by_cases hjk : j = k
  · subst hjk
    rcases Nat.lt_or_ge j listed.size with h' | h'
    · simp [h']
    · simp [Array.getElem?_eq_none h'] at h
  · rw [getD_set_ne false hjk]; exact h
theorem Closed.set {listed : Array Bool} (hc : Closed ops listed) {j : Nat} (hj : j ∈ Region.ready .any ops listed) : Closed ops (listed.setIfInBounds j true) := fun k ok hk hl e he hb => by
  rcases getD_set_true hl with rfl | hl
  · obtain ⟨_, oj, hoj, hall⟩ := mem_ready.1 hj
    rw [hk] at hoj; injection hoj with hoj; subst hoj
    exact getD_mono (hall e he hb)
  · exact getD_mono (hc k ok hk hl e he hb)
/-- S': what the value hangs on; it holds now, and behind whatever may come before -/
theorem wpAnyG_first {S' : World → Prop} {i : Nat} {oi : Oper} {v : Value} (hi : ops[i]? = some oi) (hsel : ∀ (j : Nat) (o : Oper) cs b, ops[j]? = some o → o.op ≠ .select cs b)
    (hQ : ∀ c a w, Q (.panic c) (a.put oi.dst v) w → Q (.panic c) a w)
    (hS' : (∀ w, S' w) ∨ ((∀ w, S' w ↔ S i w) ∧ ∀ j oj, ops[j]? = some oj → keep i j = false → Anc ops i j)) :
    ∀ (fuel : Nat) (listed : Array Bool) (a : Act) (w : World), Closed ops listed →
      (∀ j oj, ops[j]? = some oj → j ≠ i → listed.getD j true = false → (∀ e ∈ oj.after, Region.binds .any e = true → e.on ≠ i) → oi.apart ops oj = true) →
      i ∈ Region.ready .any ops listed → YieldsIf P ops S' oi v a → S' w →
      wpAnyG P ops Q S keep fuel (listed.setIfInBounds i true) (a.put oi.dst v) w → wpAnyG P ops Q S keep (fuel + 1) listed a w := by
  intro fuel
  induction fuel with
  | zero =>
    intro listed a w _ _ hr hy hS H
    refine ⟨fun h => (by rw [h] at hr; cases hr), fun j hj => ?_⟩
    by_cases hji : j = i
    · subst hji; exact hy.wpOp hi hS ⟨fun _ _ h => h, H⟩
    · have := ready_mono hj hji
      rw [H.1] at this
      cases this
  | succ fuel ih =>
    intro listed a w hcl hfree hr hy hS H
    refine ⟨fun h => (by rw [h] at hr; cases hr), fun j hj => ?_⟩
    by_cases hji : j = i
    · subst hji; exact hy.wpOp hi hS ⟨fun _ _ h => h, H⟩
    · have h1 := H.2 j (ready_mono hj hji)
      obtain ⟨hjun, oj, hoj, hall⟩ := mem_ready.1 hj
      have hnot : ∀ e ∈ oj.after, Region.binds .any e = true → e.on ≠ i := fun e he hb heq => by
        have h1 := hall e he hb
        have h0 := (mem_ready.1 hr).1
        rw [heq] at h1
        rcases Nat.lt_or_ge i listed.size with h' | h'
        · simp [h'] at h0 h1; rw [h0] at h1; cases h1
        · simp [Array.getElem?_eq_none h'] at h1
      have hkeep : ∀ w', (∀ q, keep q j = true → S q w → S q w') → S' w' := fun w' hk => by
        rcases hS' with h | ⟨h1, h2⟩
        · exact h w'
        · refine (h1 w').2 (hk i ?_ ((h1 w).1 hS))
          cases hf : keep i j with
          | true => rfl
          | false =>
            have := hcl.anc (h2 j oj hoj hf) (fun o ho e he hb => by rw [hoj] at ho; injection ho with ho; subst ho; exact hall e he hb)
            have h0 := (mem_ready.1 hr).1
            rcases Nat.lt_or_ge i listed.size with h' | h'
            · simp [h'] at h0 this; rw [h0] at this; cases this
            · simp [Array.getElem?_eq_none h'] at this
      have h2 := wpOp_putIf hoj (hfree j oj hoj hji hjun hnot) (fun cs b => hsel i oi cs b hi) (fun cs b => hsel j oj cs b hoj) hQ hy h1
      have hfree' : ∀ k ok, ops[k]? = some ok → k ≠ i → (listed.setIfInBounds j true).getD k true = false →
          (∀ e ∈ ok.after, Region.binds .any e = true → e.on ≠ i) → oi.apart ops ok = true := fun k ok hk hki hun hno => by
        refine hfree k ok hk hki ?_ hno
        by_cases hjk : j = k
        · subst hjk; exact hjun
        · rw [getD_set_ne true hjk] at hun; exact hun
      refine wpOp_mono (fun a' w' h3 => ⟨h3.2.1, ih (listed.setIfInBounds j true) a' w' (hcl.set hj) hfree' (ready_mono hr (Ne.symm hji)) h3.1 (hkeep w' h3.2.1) ?_⟩) h2
      rw [Array.setIfInBounds_comm _ _ hji]
      exact h3.2.2
end
/-! ### a region that draws its order: orders that stand for all
 items: (number, kind): 0 only yields a value, from registers alone, 3 from memory too (both taken as soon as they may come), 1 makes a new row (may come early), 2 whatever else (comes alone) -/
def allG (M FM L y : Nat) : Nat → List OI → Bool
  | _, [] => true
  | j, z :: I => (Nat.beq j y || Nat.testBit L j || Nat.testBit FM j || !Nat.beq (Nat.land z.p (Nat.lor L M)) z.p) && allG M FM L y (j + 1) I
def apG (i : Nat) (x : OI) : Nat → List OI → Bool
  | _, [] => true
  | j, y :: I => (Nat.beq j i || Nat.testBit y.p i || Nat.testBit x.p j || (Nat.beq (Nat.land x.d (Nat.lor y.l y.d)) 0 && Nat.beq (Nat.land y.d x.l) 0)) && apG i x (j + 1) I
/-- all that each waits for, directly or not -/
def anc1 (p : Nat) : Nat → List Nat → Nat
  | _, [] => p
  | k, c :: C => bif Nat.testBit p k then Nat.lor c (anc1 p (k + 1) C) else anc1 p (k + 1) C
def ancL : List OI → List Nat → List Nat
  | [], C => C
  | x :: I, C => ancL I (C ++ [anc1 x.p 0 C])
def keepB (C : List Nat) (i j : Nat) : Bool := match C[j]? with
  | some c => !Nat.testBit c i
  | none => true
def fG (FM : Nat) (I : List OI) : Nat → List OI → Bool
  | _, [] => true
  | i, x :: J => (!Nat.testBit FM i || (Nat.beq (Nat.land x.p FM) 0 && apG i x 0 I)) && fG FM I (i + 1) J
def goF (I : List OI) (FM : Nat) : Nat → List (Nat × Nat) → Bool
  | L, [] => endGo L 0 I
  | L, (i, kd) :: l => (match I[i]? with
    | some x => !Nat.testBit L i && Nat.beq (Nat.land x.p L) x.p &&
      (bif Nat.beq kd 1 then Nat.testBit FM i && force (Nat.xor FM (Nat.pow 2 i)) fun M => allG M FM L i 0 I
       else bif Nat.beq kd 2 then !Nat.testBit FM i && allG FM FM L i 0 I
       else takeGo (fun _ => false) L i x 0 I)
    | none => false) && force (Nat.lor L (Nat.pow 2 i)) fun L' => goF I FM L' l
def fMask : List (Nat × Nat) → Nat
  | [] => 0
  | (i, 1) :: l => Nat.lor (Nat.pow 2 i) (fMask l)
  | _ :: l => fMask l
def eqN : List Nat → List Nat → Bool
  | [], [] => true
  | a :: l, b :: m => Nat.beq a b && eqN l m
  | _, _ => false
def ordOkF (ops : Array Oper) (C : List Nat) (l : List (Nat × Nat)) : Bool := mkI ops ops.toList fun I => force (fMask l) fun FM => fG FM I 0 I && goF I FM 0 l && eqN C (ancL I [])
theorem eqN_eq : ∀ {a b : List Nat}, eqN a b = true → a = b
  | [], [], _ => rfl
  | a :: l, b :: m, h => by simp only [eqN, Bool.and_eq_true] at h; rw [Nat.eq_of_beq_eq_true h.1, eqN_eq h.2]
  | [], _ :: _, h => by cases h
  | _ :: _, [], h => by cases h

theorem lor_bit (a i j : Nat) : (Nat.lor a (Nat.pow 2 i)).testBit j = (a.testBit j || decide (i = j)) := by
  show (a ||| 2 ^ i).testBit j = _
  rw [Nat.testBit_or, Nat.testBit_two_pow]
theorem lor_bit2 (a b j : Nat) : (Nat.lor a b).testBit j = (a.testBit j || b.testBit j) := by
  show (a ||| b).testBit j = _
  rw [Nat.testBit_or]
theorem xor_bit {a i j : Nat} : (Nat.xor a (Nat.pow 2 i)).testBit j = ((a.testBit j) ^^ decide (i = j)) := by
  show (a ^^^ 2 ^ i).testBit j = _
  rw [Nat.testBit_xor, Nat.testBit_two_pow]
theorem allG_spec {M FM L y : Nat} : ∀ (I : List OI) (j0 : Nat), allG M FM L y j0 I = true → ∀ k z, I[k]? = some z →
    j0 + k = y ∨ L.testBit (j0 + k) = true ∨ FM.testBit (j0 + k) = true ∨ ∃ q, z.p.testBit q = true ∧ (Nat.lor L M).testBit q = false
  | [], _, _, k, z, h => by simp at h
  | x :: I, j0, h, k, z, hk => by
    simp only [allG] at h
    rw [Bool.and_eq_true] at h
    cases k with
    | zero =>
      simp at hk; subst hk
      have h1 := h.1
      rw [Bool.or_eq_true, Bool.or_eq_true, Bool.or_eq_true] at h1
      rw [Nat.add_zero]
      rcases h1 with ((h1 | h1) | h1) | h1
      · exact .inl (Nat.eq_of_beq_eq_true h1)
      · exact .inr (.inl h1)
      · exact .inr (.inr (.inl h1))
      · exact .inr (.inr (.inr (land_nsub (by simpa using h1))))
    | succ k =>
      have := allG_spec I (j0 + 1) h.2 k z (by simpa using hk)
      rw [show j0 + (k + 1) = j0 + 1 + k by omega]; exact this
theorem apG_spec {i : Nat} {x : OI} : ∀ (I : List OI) (j0 : Nat), apG i x j0 I = true → ∀ k y, I[k]? = some y →
    j0 + k = i ∨ y.p.testBit i = true ∨ x.p.testBit (j0 + k) = true ∨ (Nat.beq (Nat.land x.d (Nat.lor y.l y.d)) 0 = true ∧ Nat.beq (Nat.land y.d x.l) 0 = true)
  | [], _, _, k, z, h => by simp at h
  | z :: I, j0, h, k, y, hk => by
    simp only [apG] at h
    rw [Bool.and_eq_true] at h
    cases k with
    | zero =>
      simp at hk; subst hk
      have h1 := h.1
      rw [Bool.or_eq_true, Bool.or_eq_true, Bool.or_eq_true, Bool.and_eq_true] at h1
      rw [Nat.add_zero]
      rcases h1 with ((h1 | h1) | h1) | h1
      · exact .inl (Nat.eq_of_beq_eq_true h1)
      · exact .inr (.inl h1)
      · exact .inr (.inr (.inl h1))
      · exact .inr (.inr (.inr h1))
    | succ k =>
      have := apG_spec I (j0 + 1) h.2 k y (by simpa using hk)
      rw [show j0 + (k + 1) = j0 + 1 + k by omega]; exact this
theorem fG_spec {FM : Nat} {I : List OI} : ∀ (J : List OI) (i0 : Nat), fG FM I i0 J = true → ∀ k x, J[k]? = some x → FM.testBit (i0 + k) = true →
    Nat.beq (Nat.land x.p FM) 0 = true ∧ apG (i0 + k) x 0 I = true
  | [], _, _, k, z, h, _ => by simp at h
  | z :: J, i0, h, k, x, hk, hf => by
    simp only [fG] at h
    rw [Bool.and_eq_true] at h
    cases k with
    | zero =>
      simp at hk; subst hk
      have h1 := h.1
      rw [Nat.add_zero] at hf ⊢
      rw [hf] at h1
      simpa using h1
    | succ k =>
      have := fG_spec J (i0 + 1) h.2 k x (by simpa using hk) (by rw [show i0 + 1 + k = i0 + (k + 1) by omega]; exact hf)
      rw [show i0 + (k + 1) = i0 + 1 + k by omega]; exact this

theorem anc1_spec {p i : Nat} : ∀ (C : List Nat) (k0 : Nat), (anc1 p k0 C).testBit i = true → p.testBit i = true ∨ ∃ k c, C[k]? = some c ∧ p.testBit (k0 + k) = true ∧ c.testBit i = true
  | [], _, h => .inl h
  | x :: C, k0, h => by
    simp only [anc1] at h
    cases hb : Nat.testBit p k0 with
    | true =>
      rw [hb] at h
      simp only [cond_true, lor_bit2, Bool.or_eq_true] at h
      rcases h with h | h
      · exact .inr ⟨0, x, rfl, by simpa using hb, h⟩
      · rcases anc1_spec C (k0 + 1) h with h | ⟨k, c, h1, h2, h3⟩
        · exact .inl h
        · exact .inr ⟨k + 1, c, by simpa using h1, by rw [show k0 + (k + 1) = k0 + 1 + k by omega]; exact h2, h3⟩
    | false =>
      rw [hb] at h
      rcases anc1_spec C (k0 + 1) h with h | ⟨k, c, h1, h2, h3⟩
      · exact .inl h
      · exact .inr ⟨k + 1, c, by simpa using h1, by rw [show k0 + (k + 1) = k0 + 1 + k by omega]; exact h2, h3⟩
theorem ancL_spec {ops : Array Oper} : ∀ (l : List Oper) (C : List Nat), (∀ k o, l[k]? = some o → ops[C.length + k]? = some o) → (∀ k c, C[k]? = some c → ∀ i, c.testBit i = true → Anc ops i k) →
    ∀ k c, (ancL (l.map (oi ops)) C)[k]? = some c → ∀ i, c.testBit i = true → Anc ops i k
  | [], C, _, hC, k, c, hk => hC k c (by simpa [ancL] using hk)
  | o :: l, C, hl, hC, k, c, hk => by
    simp only [List.map_cons, ancL] at hk
    refine ancL_spec l (C ++ [anc1 (oi ops o).p 0 C]) (fun k o' h => ?_) (fun k c h i hi => ?_) k c hk
    · have := hl (k + 1) o' (by simpa using h)
      simp only [List.length_append, List.length_cons, List.length_nil]
      rw [show C.length + (0 + 1) + k = C.length + (k + 1) by omega]; exact this
    · rcases Nat.lt_or_ge k C.length with hlt | hge
      · rw [List.getElem?_append_left hlt] at h
        exact hC k c h i hi
      · have hkl : k = C.length := by
          have := (List.getElem?_eq_some_iff.1 h).1
          simp at this; omega
        subst hkl
        simp at h
        subst h
        have ho := hl 0 o rfl
        rw [Nat.add_zero] at ho
        rcases anc1_spec _ _ hi with h1 | ⟨q, c', h1, h2, h3⟩
        · obtain ⟨e, he, hb, hon⟩ := (pmask_bit _ _).1 h1
          exact .dir ho (by simpa using he) hb hon
        · rw [Nat.zero_add] at h2
          obtain ⟨e, he, hb, hon⟩ := (pmask_bit _ _).1 h2
          exact .st ho (by simpa using he) hb (by rw [hon]; exact hC q c' h1 i h3)
theorem ancL_length : ∀ (I : List OI) (C : List Nat), (ancL I C).length = C.length + I.length
  | [], C => by simp [ancL]
  | x :: I, C => by simp only [ancL]; rw [ancL_length I]; simp; omega
theorem keepB_anc {ops : List Oper} {i j : Nat} (h : keepB (ancL (ops.map (oi ops.toArray)) []) i j = false) : Anc ops.toArray i j := by
  unfold keepB at h
  split at h
  · next c hc => exact ancL_spec ops [] (fun k o h => by simpa using h) (fun k c h => by simp at h) j _ hc i (by simpa using h)
  · cases h
theorem evN_congr {P : Program} {ρ ρ' : Operand → AV} {o : Oper} (h : ∀ x ∈ o.op.operands, ρ' x = ρ x) : evN P ρ' o = evN P ρ o := by
  obtain ⟨dst, op, ty, pos, af, gd⟩ := o
  unfold evN
  cases op with
  | box ty x => simp only; rw [h x (by simp [Op.operands])]
  | buildSlice t len parts =>
    have hp : ∀ (sz : Nat) (l : List (Nat × Operand)), (∀ p ∈ l, ρ' p.2 = ρ p.2) → partsAV ρ' sz l = partsAV ρ sz l := by
      intro sz l
      induction l with
      | nil => intro _; rfl
      | cons p l ih =>
        intro hl
        obtain ⟨i, x⟩ := p
        simp only [partsAV]
        rw [ih fun q hq => hl q (List.mem_cons_of_mem _ hq), hl (i, x) (by simp)]
    have : ∀ sz, partsAV ρ' sz parts.toList = partsAV ρ sz parts.toList := fun sz => hp sz _ fun p hp => h _ (by simp only [Op.operands]; simpa using ⟨p.1, by simpa using hp⟩)
    simp only [this]
  | _ => rfl

/-! ### rows that came early -/
structure El where
  i : Nat
  d : Nat
  b : Nat
  ty : TypeId
  cs : List AV
  rr : Option Nat
def VA : Option Nat → Nat → Value
  | none, b => .pointer (some ⟨b, 0, none⟩)
  | some n, b => .slice (some ⟨b, 0, none⟩) n n
def updE : List El → Rg → Rg
  | [], ρ => ρ
  | e :: D, ρ => upd (updE D ρ) e.d (VA e.rr e.b)
theorem upd_comm {ρ : Rg} {d d' : Nat} {v v' : Value} (h : d ≠ d') : upd (upd ρ d v) d' v' = upd (upd ρ d' v') d v := by
  funext t
  simp only [upd]
  cases h1 : Nat.beq t d' <;> cases h2 : Nat.beq t d <;> simp only [cond_true, cond_false]
  exact absurd ((Nat.eq_of_beq_eq_true h2).symm.trans (Nat.eq_of_beq_eq_true h1)) h
theorem updE_comm {d : Nat} {v : Value} : ∀ {D : List El} {ρ : Rg}, (∀ e ∈ D, e.d ≠ d) → upd (updE D ρ) d v = updE D (upd ρ d v)
  | [], _, _ => rfl
  | e :: D, ρ, h => by
    simp only [updE]
    rw [upd_comm (h e (by simp)), updE_comm fun e' he' => h e' (List.mem_cons_of_mem _ he')]
theorem updE_get {t : Nat} : ∀ {D : List El} {ρ : Rg}, (∀ e ∈ D, e.d ≠ t) → updE D ρ t = ρ t
  | [], _, _ => rfl
  | e :: D, ρ, h => by
    have : Nat.beq t e.d = false := by apply Bool.eq_false_iff.2; intro hb; exact h e (by simp) (Nat.eq_of_beq_eq_true hb).symm
    simp only [updE, upd, this, cond_false]
    exact updE_get fun e' he' => h e' (List.mem_cons_of_mem _ he')
theorem updE_pull : ∀ {D1 D2 : List El} {e : El} {ρ : Rg}, (∀ e' ∈ D1, e'.d ≠ e.d) → (∀ e' ∈ D2, e'.d ≠ e.d) → updE (D1 ++ e :: D2) ρ = updE (D1 ++ D2) (upd ρ e.d (VA e.rr e.b))
  | [], D2, e, ρ, _, h => by simp only [List.nil_append, updE]; exact updE_comm h
  | e1 :: D1, D2, e, ρ, h1, h2 => by
    simp only [List.cons_append, updE]
    rw [updE_pull (fun e' he' => h1 e' (List.mem_cons_of_mem _ he')) h2]
theorem resA_VA {rr : Option Nat} {k b c : Nat} {E : Env} : (resA rr k).emb (eset E k (b, c)) = VA rr b := by rw [resA_emb]; cases rr <;> rfl

structure DI (P : Program) (ops : Array Oper) (n FM L : Nat) (r : R) (h : AH) (E : Env) (w : World) (D : List El) : Prop where
  op : ∀ e ∈ D, ∃ o, ops[e.i]? = some o ∧ o.dst = some e.d ∧ o.guard = none ∧ evN P (opA r) o = some (e.ty, e.cs, e.rr) ∧ ∀ k, (oi ops o).p.testBit k = true → L.testBit k = true
  dn : ∀ e ∈ D, e.d < n
  fm : ∀ e ∈ D, FM.testBit e.i = true
  un : ∀ e ∈ D, L.testBit e.i = false
  blk : ∀ e ∈ D, w.heap[e.b]? = some (.cells ⟨embL E e.cs⟩ e.ty (0, 0))
  fr : ∀ e ∈ D, ∀ k x, h.get k = some x → (E k).1 ≠ e.b
  lt : ∀ e ∈ D, ltL h.nx e.cs
  nd : D.Pairwise fun e e' => e.i ≠ e'.i ∧ e.b ≠ e'.b
end Go.RE
