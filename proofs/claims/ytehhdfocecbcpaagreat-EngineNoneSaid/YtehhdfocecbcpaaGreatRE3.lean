/- Part of a proof: the tools that its last text leans on (RE3). -/
import Derived.Test.YtehhdfocecbcpaaGreatRE2
namespace Go.RE
open Go Go.RowKit Go.Eng

def resA : Option Nat → Nat → AV
  | none, k => .p k 0
  | some n, k => .s k 0 n (some n)
theorem resA_lt {r : Option Nat} {k N : Nat} (h : k < N) : (resA r k).lt N := by cases r <;> simpa [resA, AV.lt] using h
theorem resA_emb {r : Option Nat} {k q c : Nat} {E : Env} : (resA r k).emb (eset E k (q, c)) = match r with | none => .pointer (some ⟨q, 0, none⟩) | some n => .slice (some ⟨q, 0, none⟩) n n := by
  cases r <;> simp [resA, AV.emb, eset]
/-- the parts of a slice literal, in order, each of sz cells -/
def partsAV (ρ : Operand → AV) (sz : Nat) : List (Nat × Operand) → Option (List AV)
  | [] => some []
  | (_, x) :: l => match partsAV ρ sz l with
    | some r => bif Nat.beq (ρ x).cells.length sz then some ((ρ x).cells ++ r) else none
    | none => none
/-- operations that only make a new row -/
def evN (P : Program) (ρ : Operand → AV) (o : Oper) : Option (TypeId × List AV × Option Nat) :=
  match o.op with
  | .alloc ty => match zeroP P ty with
    | some z => some (ty, (AV.v z).cells, none)
    | none => none
  | .box ty x => some (ty, (ρ x).cells, none)
  | .buildSlice t len parts => match elemP P t with
    | some (e, sz) => match zeroP P e with
      | some _ => match partsAV ρ sz parts.toList with
        | some C => bif seqIdx 0 parts.toList && Nat.beq len parts.toList.length && Nat.ble (len * sz) 16777216 then some (e, C, some len) else none
        | none => none
      | none => none
    | none => none
  | _ => none
theorem fill_gen {sz : Nat} {f : Operand → Value} : ∀ (parts : List (Nat × Operand)) (k : Nat) (pre post : List Value), seqIdx k parts = true → pre.length = k * sz → post.length = parts.length * sz → (∀ p ∈ parts, (f p.2).cells.size = sz) →
    Instr.fill (fun i => some (i * sz, sz)) ⟨pre ++ post⟩ (parts.map fun p => (p.1, f p.2)) = some ⟨pre ++ parts.flatMap fun p => (f p.2).cells.toList⟩ := by
  intro parts
  induction parts with
  | nil => intro k pre post _ _ h _; have : post = [] := List.eq_nil_of_length_eq_zero (by simpa using h); subst this; simp [Instr.fill]
  | cons p parts ih =>
    obtain ⟨i, o⟩ := p
    intro k pre post hi hpre hpost hc
    simp only [seqIdx, Bool.and_eq_true] at hi
    have hik := Nat.eq_of_beq_eq_true hi.1
    subst hik
    have hsz : (f o).cells.size = sz := hc (i, o) (by simp)
    simp only [List.map_cons, Instr.fill]
    have hcond : ((decide ((f o).cells.size ≠ sz) || decide (i * sz + (f o).cells.size > (⟨pre ++ post⟩ : Array Value).size)) = true) ↔ False := by
      simp [hsz, hpre, hpost]; rw [Nat.add_mul]; omega
    simp only [hcond, if_false]
    have hmid : ∃ mid post', post = mid ++ post' ∧ mid.length = sz ∧ post'.length = parts.length * sz := by
      refine ⟨post.take sz, post.drop sz, (List.take_append_drop _ _).symm, ?_, ?_⟩
      · simp [hpost, Nat.add_mul]
      · simp [hpost, Nat.add_mul]
    obtain ⟨mid, post', rfl, hm, hp⟩ := hmid
    have hf := foldl_set (f o).cells.toList 0 pre mid post' (by simp [hm, hsz])
    have hz : (f o).cells.zipIdx.foldl (fun (cs : Array Value) (p : Value × Nat) => cs.setIfInBounds (i * sz + p.2) p.1) ⟨pre ++ (mid ++ post')⟩ = ⟨(pre ++ (f o).cells.toList) ++ post'⟩ := by
      rcases hf with hf | hf
      · rw [← Array.foldl_toList, Array.toList_zipIdx, ← hpre]
        simpa using hf
      · omega
    rw [hz, ih (i + 1) (pre ++ (f o).cells.toList) post' hi.2 (by simp [hpre, hsz, Nat.add_mul]) hp (fun p hp => hc p (by simp [hp]))]
    simp
theorem partsAV_spec {ρ : Operand → AV} {sz N : Nat} {E : Env} : ∀ {l : List (Nat × Operand)} {C : List AV}, partsAV ρ sz l = some C → (∀ p ∈ l, (ρ p.2).lt N) →
    (∀ p ∈ l, ((ρ p.2).emb E).cells.size = sz) ∧ (l.flatMap fun p => ((ρ p.2).emb E).cells.toList) = embL E C ∧ ltL N C
  | [], C, h, _ => by simp only [partsAV, Option.some.injEq] at h; subst h; simp [embL, ltL]
  | (i, x) :: l, C, h, hl => by
    simp only [partsAV] at h
    split at h
    · next r hr =>
      cases hb : Nat.beq (ρ x).cells.length sz with
      | false => simp [hb] at h
      | true =>
        simp only [hb, cond_true, Option.some.injEq] at h
        subst h
        obtain ⟨h1, h2, h3⟩ := partsAV_spec hr (fun p hp => hl p (List.mem_cons_of_mem _ hp))
        have hlx := hl (i, x) (by simp)
        refine ⟨fun p hp => ?_, ?_, ?_⟩
        · rcases List.mem_cons.1 hp with rfl | hp
          · rw [AV.cells_emb]; simp [embL_length, Nat.eq_of_beq_eq_true hb]
          · exact h1 p hp
        · rw [List.flatMap_cons, h2, embL_append, AV.cells_emb]
        · exact ltL_append.2 ⟨AV.cells_lt hlx, h3⟩
    · cases h
section
variable {P : Program} {ρ : Operand → AV} {h h' : AH} {E : Env} {w : World} {N : Nat} {ε : Operand → Value}
theorem evN_spec {o : Oper} {ty : TypeId} {cs : List AV} {r : Option Nat} (hρ : ∀ x ∈ o.op.operands, (ρ x).lt N) (hε : ∀ x ∈ o.op.operands, ε x = (ρ x).emb E) (hev : evN P ρ o = some (ty, cs, r)) :
    ltL N cs ∧ ∀ (w : World) (k c : Nat), (execOp ε o).run P w = .ok (.value ((resA r k).emb (eset E k (w.heap.size, c)))) (w.alloc (.cells ⟨embL E cs⟩ ty)) := by
  unfold evN at hev
  obtain ⟨dst, op, ty', pos, af, gd⟩ := o
  simp only at hρ hε hev
  split at hev
  · next t =>
    split at hev
    · next z hz =>
      simp only [Option.some.injEq, Prod.mk.injEq] at hev
      obtain ⟨rfl, rfl, rfl⟩ := hev
      refine ⟨AV.cells_lt (by simp [AV.lt]), fun w k c => ?_⟩
      rw [resA_emb]
      simp only [execOp]
      refine run_v ?_
      unfold Instr.alloc
      rw [Sem.run_bind, runP_run _ _ hz]
      show ((do pure (.pointer (some (← newVar t z))) : Sem Value).run P w) = _
      unfold newVar newRow
      have := AV.cells_emb E (.v z)
      simp only [AV.emb] at this
      rw [this]
      simp [go_sem]
    · cases hev
  · next t x =>
    simp only [Option.some.injEq, Prod.mk.injEq] at hev
    obtain ⟨rfl, rfl, rfl⟩ := hev
    refine ⟨AV.cells_lt (hρ x (by simp [Op.operands])), fun w k c => ?_⟩
    rw [resA_emb]
    have hx := hε x (by simp [Op.operands])
    simp only [execOp, hx]
    refine run_v ?_
    unfold Instr.box newVar newRow
    rw [AV.cells_emb]
    simp [go_sem]
  · next t len parts =>
    split at hev
    · next e sz he =>
      split at hev
      · next z hz =>
        split at hev
        · next C hC =>
          cases hb : (seqIdx 0 parts.toList && Nat.beq len parts.toList.length && Nat.ble (len * sz) 16777216) with
          | false => rw [hb] at hev; cases hev
          | true =>
            rw [hb] at hev
            simp only [cond_true, Option.some.injEq, Prod.mk.injEq] at hev
            obtain ⟨rfl, rfl, rfl⟩ := hev
            rw [Bool.and_eq_true, Bool.and_eq_true] at hb
            obtain ⟨⟨hi, hl⟩, hle⟩ := hb
            have hl := Nat.eq_of_beq_eq_true hl
            have hle := Nat.le_of_ble_eq_true hle
            have mem : ∀ p ∈ parts.toList, p.2 ∈ (Op.buildSlice t len parts).operands := fun p hp => by
              simp only [Op.operands]; simpa using ⟨p.1, by simpa using hp⟩
            obtain ⟨h1, h2, h3⟩ := partsAV_spec (N := N) (E := E) hC (fun p hp => hρ _ (mem p hp))
            refine ⟨h3, fun w k c => ?_⟩
            rw [resA_emb]
            have Te := elemP_spec he
            have Tz := runP_run _ _ hz
            simp only [execOp]
            refine run_v ?_
            have hp' : ((parts.map fun p => (p.1, ε p.2)) : Array (Nat × Value)).toList = parts.toList.map fun p => (p.1, ε p.2) := by simp
            show (Instr.buildSlice t len (parts.map fun p => (p.1, ε p.2))).run P w = _
            unfold Instr.buildSlice
            rw [hp']
            have hf : ∀ z0 : Array Value, z0.size = len * sz → Instr.fill (fun i => some (i * sz, sz)) z0 (parts.toList.map fun p => (p.1, ε p.2)) = some ⟨embL E C⟩ := fun z0 h0 => by
              have := fill_gen (sz := sz) (f := ε) parts.toList 0 [] z0.toList hi (by simp) (by simp [h0, hl]) (fun p hp => by rw [hε _ (mem p hp)]; exact h1 p hp)
              have e2 : (parts.toList.flatMap fun p => (ε p.2).cells.toList) = embL E C := by
                rw [← h2]
                have : ∀ (l : List (Nat × Operand)), (∀ p ∈ l, ε p.2 = (ρ p.2).emb E) → (l.flatMap fun p => (ε p.2).cells.toList) = l.flatMap fun p => ((ρ p.2).emb E).cells.toList := by
                  intro l
                  induction l with
                  | nil => intro _; rfl
                  | cons p l ih => intro h; rw [List.flatMap_cons, List.flatMap_cons, h p (by simp), ih fun q hq => h q (List.mem_cons_of_mem _ hq)]
                exact this _ fun p hp => hε _ (mem p hp)
              simpa [e2] using this
            have hns : ¬ (len * sz > 2 ^ 24) := by omega
            by_cases h0 : len * sz = 0
            · have hz0 := hf ((Array.range (len * sz)).map ((#[] : Array Value)[· % (#[] : Array Value).size]!)) (by simp)
              simp [go_sem, Te.und, Te.size, h0, newRow] at hz0 ⊢
              simp [hz0, go_sem]
            · have hz0 := hf ((Array.range (len * sz)).map (z.cells[· % z.cells.size]!)) (by simp)
              simp [go_sem, Te.und, Te.size, hns, h0, Tz, newRow] at hz0 ⊢
              simp [hz0, go_sem]
        · cases hev
      · cases hev
    · cases hev
  · cases hev
end
/-! ### operations that turn memory -/
theorem setL_take (vs : List Value) : ∀ (C : List Value) (i m : Nat), (setL C i vs).take m = setL (C.take m) i vs := by
  induction vs with
  | nil => intro C i m; rfl
  | cons v vs ih => intro C i m; simp only [setL]; rw [ih, List.take_set]
def Blk.put (b : Blk) (off : Nat) (vs : List AV) : Blk := match b with
  | .c ty cs => .c ty (layAV cs off vs)
  | .o ty sz n cs => .o ty sz n (layAV cs off vs)
  | .mp => .mp
def AH.upd (h : AH) (k : Nat) (b : Option Blk) : AH := ⟨T.set 30 h.t k b, h.nx, T.set 30 h.st k (some (h.ck + 1)), h.ck + 1⟩
theorem AH.get_upd {h : AH} {k : Nat} {b : Option Blk} {j : Nat} : (h.upd k b).get j = if j = k then b else h.get j := by simp [AH.upd, AH.get, T.get_set]
theorem Ext.upd {h : AH} {k : Nat} {b : Option Blk} : Ext h (h.upd k b) := by
  refine ⟨by simp [AH.upd], by simp [AH.upd], fun j h1 h2 => ?_⟩
  have e : (h.upd k b).st.get j = if j = k then some (h.ck + 1) else h.st.get j := by simp [AH.upd, T.get_set]
  have hne : j ≠ k := by
    rintro rfl
    unfold okS at h2
    rw [e, if_pos rfl] at h2
    have := Nat.le_of_ble_eq_true h2
    omega
  exact ⟨by rw [AH.get_upd, if_neg hne], by rw [e, if_neg hne]⟩
section
variable {P : Program} {ρ : Operand → AV} {h h' : AH} {E : Env} {w w' : World} {N : Nat} {ε : Operand → Value}
theorem RH.updBlk {k : Nat} {b b' : Blk} (r : RH E h w) (hb : h.get k = some b) (hlt : b'.lt h.nx) (hs : w.heap.size ≤ w'.heap.size) (ho : ∀ q, q ≠ (E k).1 → q < w.heap.size → w'.heap[q]? = w.heap[q]?) (hh : b'.holds E k w') :
    RH E (h.upd k (some b')) w' where
  key := fun j x hx => by
    rw [AH.get_upd] at hx
    show j < h.nx
    by_cases h1 : j = k
    · subst h1; exact r.key _ _ hb
    · rw [if_neg h1] at hx; exact r.key j x hx
  lt := fun j x hx => by
    rw [AH.get_upd] at hx
    by_cases h1 : j = k
    · rw [if_pos h1] at hx; injection hx with hx; subst hx; exact hlt
    · rw [if_neg h1] at hx; exact r.lt j x hx
  sz := fun j x hx => by
    rw [AH.get_upd] at hx
    by_cases h1 : j = k
    · subst h1; exact Nat.lt_of_lt_of_le (r.sz _ _ hb) hs
    · rw [if_neg h1] at hx; exact Nat.lt_of_lt_of_le (r.sz j x hx) hs
  holds := fun j x hx => by
    rw [AH.get_upd] at hx
    by_cases h1 : j = k
    · rw [if_pos h1] at hx; injection hx with hx; subst hx; subst h1; exact hh
    · rw [if_neg h1] at hx
      exact Blk.holds_frame (ho _ (fun e => h1 (r.inj k b j x hb hx e)) (r.sz j x hx)) (r.holds j x hx)
  inj := fun j x j' x' hx hx' e => by
    rw [AH.get_upd] at hx hx'
    by_cases h1 : j = k <;> by_cases h2 : j' = k
    · omega
    · subst h1; rw [if_neg h2] at hx'; exact r.inj _ _ _ _ hb hx' e
    · subst h2; rw [if_neg h1] at hx; exact r.inj _ _ _ _ hx hb e
    · rw [if_neg h1] at hx; rw [if_neg h2] at hx'; exact r.inj j x j' x' hx hx' e
theorem RH.delBlk {k : Nat} (r : RH E h w) : RH E (h.upd k none) w where
  key := fun j x hx => by
    rw [AH.get_upd] at hx
    by_cases h1 : j = k
    · rw [if_pos h1] at hx; cases hx
    · rw [if_neg h1] at hx; exact r.key j x hx
  lt := fun j x hx => by
    rw [AH.get_upd] at hx
    by_cases h1 : j = k
    · rw [if_pos h1] at hx; cases hx
    · rw [if_neg h1] at hx; exact r.lt j x hx
  sz := fun j x hx => by
    rw [AH.get_upd] at hx
    by_cases h1 : j = k
    · rw [if_pos h1] at hx; cases hx
    · rw [if_neg h1] at hx; exact r.sz j x hx
  holds := fun j x hx => by
    rw [AH.get_upd] at hx
    by_cases h1 : j = k
    · rw [if_pos h1] at hx; cases hx
    · rw [if_neg h1] at hx; exact r.holds j x hx
  inj := fun j x j' x' hx hx' e => by
    rw [AH.get_upd] at hx hx'
    by_cases h1 : j = k
    · rw [if_pos h1] at hx; cases hx
    · by_cases h2 : j' = k
      · rw [if_pos h2] at hx'; cases hx'
      · rw [if_neg h1] at hx; rw [if_neg h2] at hx'; exact r.inj j x j' x' hx hx' e
theorem Fr.upd {k : Nat} {b : Blk} {b' : Option Blk} (hb : h.get k = some b) (hB : Below (E k).1 w w') (ho : ∀ q, q ≠ (E k).1 → q < w.heap.size → w'.heap[q]? = w.heap[q]?) : Fr E h w E (h.upd k b') w' where
  os := hB.os
  tape := hB.tape
  output := hB.output
  size := hB.size
  env := fun _ _ => rfl
  nx := Nat.le_refl _
  frame := fun q hq hn => ho q (fun e => hn k b hb e.symm) hq
  foot := fun j x hx => by
    rw [AH.get_upd] at hx
    by_cases h1 : j = k
    · subst h1; exact .inl ⟨_, _, hb, rfl⟩
    · rw [if_neg h1] at hx; exact .inl ⟨j, x, hx, rfl⟩
/-- what a store into a block gives -/
theorem RH.store {k off : Nat} {b : Blk} {vs : List AV} (r : RH E h w) (hb : h.get k = some b) (hne : b.cells ≠ [] ∨ vs = []) (hlt : ltL h.nx vs) (hl : off + vs.length ≤ b.cells.length) (h1 : vs.all AV.one = true) :
    vs = [] ∨ ∃ w', (storeCells ⟨(E k).1, off, none⟩ (embL E vs)).run P w = .ok () w' ∧ RH E (h.upd k (some (b.put off vs))) w' ∧ Fr E h w E (h.upd k (some (b.put off vs))) w' := by
  have hh := r.holds k b hb
  have hone := allOne_emb (E := E) h1
  have hlb := r.lt k b hb
  cases b with
  | mp => rcases hne with hne | hne; exact absurd rfl hne; exact .inl hne
  | c ty cs =>
    simp only [Blk.holds] at hh
    simp only [Blk.cells] at hl
    obtain ⟨w', s1, s2, s3, s4⟩ := run_storeCells (P := P) (o := off) (embL E vs) 0 w (embL E cs) hh (by simp only [embL_length]; omega) hone
    refine .inr ⟨w', s1, r.updBlk hb (layAV_lt _ _ _ hlb hlt) s4.size (fun q hq _ => s3 q hq) ?_, Fr.upd hb s4 (fun q hq _ => s3 q hq)⟩
    simp only [Blk.put, Blk.holds, layAV_emb]
    simpa using s2
  | o ty sz n cs =>
    simp only [Blk.holds] at hh
    simp only [Blk.cells] at hl
    obtain ⟨hlen, hx⟩ := hh
    rcases hx with ⟨e, _⟩ | ⟨g, cap, cur, e, h3, h4, h5, h6, h7, h8⟩
    · cases e
    · injection e with e1 e2 e3
      injection e1 with e1
      injection e1 with e1
      subst e1
      have hcl : cur = ⟨cur.toList⟩ := rfl
      have hle : n * sz ≤ cur.toList.length := by rw [Array.length_toList, h7]; exact Nat.mul_le_mul_right _ h5
      rw [embL_length] at hlen
      obtain ⟨w', s1, s2, s3, s4⟩ := run_storeCells (P := P) (o := off) (embL E vs) 0 w cur.toList h4 (by simp only [embL_length]; omega) hone
      refine .inr ⟨w', s1, r.updBlk hb (layAV_lt _ _ _ hlb hlt) s4.size (fun q hq _ => s3 q hq) ?_, Fr.upd hb s4 (fun q hq _ => s3 q hq)⟩
      simp only [Blk.put, Blk.holds, layAV_emb]
      refine ⟨by rw [setL_length, embL_length]; exact hlen, .inr ⟨(E k).1, cap, _, by rw [e3], h3, s2, h5, h6, ?_, ?_⟩⟩
      · simp [setL_length, h7]
      · show (setL cur.toList (off + 0) (embL E vs)).take (n * sz) = _
        rw [setL_take, h8]; simp
end
end Go.RE
