/- Part of a proof: the tools that its last text leans on (RE2). -/
import Derived.Test.YtehhdfocecbcpaaGreatRE1
namespace Go.RE
open Go Go.RowKit Go.Eng

/-! ### what the program alone decides -/
def runP (P : Program) {α : Type} : Sem α → Option α
  | .pure a => some a
  | .program k => runP P (k P)
  | .mark _ k => runP P k
  | _ => none
theorem runP_run {P : Program} {α : Type} : ∀ (m : Sem α) (a : α), runP P m = some a → ∀ w, m.run P w = .ok a w
  | .pure _, a, h, w => by simp only [runP, Option.some.injEq] at h; subst h; rfl
  | .program k, a, h, w => by simp only [runP] at h; exact runP_run (k P) a h w
  | .mark _ k, a, h, w => by simp only [runP] at h; exact runP_run k a h w
  | .load .., _, h, _ | .store .., _, h, _ | .new .., _, h, _ | .shape .., _, h, _ | .freeze .., _, h, _ | .frozen .., _, h, _ | .getObj .., _, h, _ | .setObj .., _, h, _ | .choose .., _, h, _ | .sys .., _, h, _ | .halt .., _, h, _ => by simp [runP] at h

def sizeP (P : Program) (t : TypeId) : Option Nat := runP P (sizeOf t)
def aggP (P : Program) (t : TypeId) : Option Bool := runP P (isAgg t)
def undP (P : Program) (t : TypeId) : Option TypeDesc := runP P (underlying t)
def zeroP (P : Program) (t : TypeId) : Option Value := runP P (zeroValue t)
/-- a slice type's element and its size -/
def elemP (P : Program) (t : TypeId) : Option (TypeId × Nat) := match undP P t with
  | some (.slice e) => match sizeP P e with
    | some n => some (e, n)
    | none => none
  | _ => none
theorem elemP_spec {P : Program} {t e : TypeId} {n : Nat} (h : elemP P t = some (e, n)) : ElS P t e n := by
  unfold elemP at h
  split at h
  · next e' he =>
    split at h
    · next m hm =>
      simp only [Option.some.injEq, Prod.mk.injEq] at h
      obtain ⟨rfl, rfl⟩ := h
      exact ⟨runP_run _ _ he, runP_run _ _ hm⟩
    · cases h
  · cases h
def fldP (P : Program) (s : TypeId) (f : Nat) : Option Nat := match undP P s with
  | some (.struct fs) => match fs.toList[f]? with
    | some x => match sizeP P x.type with
      | some (_ + 1) => some x.offset
      | _ => none
    | none => none
  | _ => none
theorem fldP_spec {P : Program} {s : TypeId} {f off : Nat} (h : fldP P s f = some off) : FldO P s f off := by
  unfold fldP at h
  split at h
  · next fs hfs =>
    split at h
    · next x hx =>
      split at h
      · next n hn =>
        injection h with h
        exact fld_of (runP_run _ _ hfs) (by simpa using hx) (runP_run _ _ hn) (by omega) h
      · cases h
    · cases h
  · cases h
/-- the parts of a struct laid over its cells -/
def layAV : List AV → Nat → List AV → List AV
  | C, _, [] => C
  | C, i, v :: vs => layAV (C.set i v) (i + 1) vs
theorem layAV_emb {E : Env} (vs : List AV) : ∀ (C : List AV) (i : Nat), embL E (layAV C i vs) = setL (embL E C) i (embL E vs) := by
  induction vs with
  | nil => intro C i; simp [layAV, embL, setL]
  | cons v vs ih => intro C i; simp only [layAV, embL, setL]; rw [ih]; congr 1; simp only [embL_map, List.map_set]
theorem layAV_lt {N : Nat} (vs : List AV) : ∀ (C : List AV) (i : Nat), ltL N C → ltL N vs → ltL N (layAV C i vs) := by
  induction vs with
  | nil => intro C i h _; simpa [layAV] using h
  | cons v vs ih =>
    intro C i h hv
    simp only [ltL] at hv
    simp only [layAV]
    refine ih _ _ (ltL_iff.2 fun x hx => ?_) hv.2
    rcases List.mem_or_eq_of_mem_set hx with h1 | h1
    · exact ltL_iff.1 h x h1
    · exact h1 ▸ hv.1
theorem sem_bind_assoc {α β γ : Type} (x : Sem α) (f : α → Sem β) (g : β → Sem γ) : (x.bind f).bind g = x.bind fun a => (f a).bind g := by
  induction x with
  | pure a => rfl
  | halt h => rfl
  | store m a v k ih => simp only [Sem.bind]; rw [ih]
  | freeze a n k ih => simp only [Sem.bind]; rw [ih]
  | setObj r o k ih => simp only [Sem.bind]; rw [ih]
  | mark m k ih => simp only [Sem.bind]; rw [ih]
  | load m a k ih => simp only [Sem.bind]; congr 1; funext v; exact ih v
  | new o k ih => simp only [Sem.bind]; congr 1; funext v; exact ih v
  | shape r k ih => simp only [Sem.bind]; congr 1; funext v; exact ih v
  | frozen a k ih => simp only [Sem.bind]; congr 1; funext v; exact ih v
  | getObj r k ih => simp only [Sem.bind]; congr 1; funext v; exact ih v
  | choose q k ih => simp only [Sem.bind]; congr 1; funext v; exact ih v
  | sys c k ih => simp only [Sem.bind]; congr 1; funext v; exact ih v
  | program k ih => simp only [Sem.bind]; congr 1; funext v; exact ih v
theorem sem_bind_pure {α : Type} (x : Sem α) : x.bind Sem.pure = x := by
  induction x with
  | pure a => rfl
  | halt h => rfl
  | store m a v k ih => simp only [Sem.bind]; rw [ih]
  | freeze a n k ih => simp only [Sem.bind]; rw [ih]
  | setObj r o k ih => simp only [Sem.bind]; rw [ih]
  | mark m k ih => simp only [Sem.bind]; rw [ih]
  | load m a k ih => simp only [Sem.bind]; congr 1; funext v; exact ih v
  | new o k ih => simp only [Sem.bind]; congr 1; funext v; exact ih v
  | shape r k ih => simp only [Sem.bind]; congr 1; funext v; exact ih v
  | frozen a k ih => simp only [Sem.bind]; congr 1; funext v; exact ih v
  | getObj r k ih => simp only [Sem.bind]; congr 1; funext v; exact ih v
  | choose q k ih => simp only [Sem.bind]; congr 1; funext v; exact ih v
  | sys c k ih => simp only [Sem.bind]; congr 1; funext v; exact ih v
  | program k ih => simp only [Sem.bind]; congr 1; funext v; exact ih v
theorem semLawful : LawfulMonad Sem := LawfulMonad.mk' Sem (fun x => sem_bind_pure x) (fun _ _ => rfl) (fun x f g => sem_bind_assoc x f g)
theorem run_mapL {P : Program} {α β : Type} {f : α → Sem β} {w : World} : ∀ (as : List α) (vals : List β) (bs : Array β), vals.length = as.length → (∀ (i : Nat) (a : α) (v : β), as[i]? = some a → vals[i]? = some v → (f a).run P w = .ok v w) →
    (as.foldlM (fun (bs : Array β) a => bs.push <$> f a) bs).run P w = .ok (bs ++ vals.toArray) w
  | [], vals, bs, hl, _ => by have : vals = [] := List.eq_nil_of_length_eq_zero hl; subst this; simp [go_sem]
  | a :: as, vals, bs, hl, h => by
    obtain ⟨v, vals, rfl⟩ : ∃ v vs, vals = v :: vs := by cases vals <;> simp_all
    rw [List.foldlM_cons, Sem.run_bind]
    have h0 : (bs.push <$> f a).run P w = .ok (bs.push v) w := by
      show ((f a).bind fun x => Sem.pure (bs.push x)).run P w = _
      have := Sem.run_bind (P := P) (x := f a) (f := fun x => Sem.pure (bs.push x)) (w := w)
      rw [h 0 a v (by simp) (by simp)] at this
      exact this
    rw [h0]
    simp only [Result.andThen_ok]
    rw [run_mapL as vals (bs.push v) (by simpa using hl) (fun i a' v' h1 h2 => h (i + 1) a' v' (by simpa using h1) (by simpa using h2))]
    congr 1
    apply Array.ext'; simp
theorem run_mapM {P : Program} {α β : Type} {f : α → Sem β} {w : World} {as : Array α} {vals : List β} (hl : vals.length = as.size) (h : ∀ (i : Nat) a v, as[i]? = some a → vals[i]? = some v → (f a).run P w = .ok v w) : (as.mapM f).run P w = .ok vals.toArray w := by
  have := semLawful
  rw [Array.mapM_eq_foldlM, ← Array.foldlM_toList, run_mapL as.toList vals #[] (by simpa using hl) (fun i a v h1 h2 => h i a v (by simpa using h1) h2)]
  simp
theorem setL_set {C : List Value} {i : Nat} {vs : List Value} : ∀ (j : Nat), (vs.zipIdx j).foldl (fun (cs : Array Value) (p : Value × Nat) => cs.setIfInBounds (i + p.2) p.1) ⟨C⟩ = ⟨setL C (i + j) vs⟩ := by
  induction vs generalizing C with
  | nil => intro j; rfl
  | cons v vs ih =>
    intro j
    simp only [List.zipIdx_cons, List.foldl_cons, setL]
    have : (⟨C⟩ : Array Value).setIfInBounds (i + j) v = ⟨C.set (i + j) v⟩ := by apply Array.ext'; simp
    rw [this, ih (j + 1)]
    rfl
def fillAV (place : List (Nat × Nat)) : List AV → List (Nat × AV) → Option (List AV)
  | C, [] => some C
  | C, (i, x) :: l => match place[i]? with
    | some (off, sz) => bif Nat.beq x.cells.length sz && Nat.ble (off + sz) C.length then fillAV place (layAV C off x.cells) l else none
    | none => none
theorem layAV_length (vs : List AV) : ∀ (C : List AV) (i : Nat), (layAV C i vs).length = C.length := by
  induction vs with
  | nil => intro C i; rfl
  | cons v vs ih => intro C i; simp only [layAV]; rw [ih]; simp
theorem fillAV_spec {E : Env} {N : Nat} {place : List (Nat × Nat)} : ∀ (l : List (Nat × AV)) (C C' : List AV), fillAV place C l = some C' → ltL N C → (∀ p ∈ l, p.2.lt N) →
    Instr.fill (place.toArray[·]?) ⟨embL E C⟩ (l.map fun p => (p.1, p.2.emb E)) = some ⟨embL E C'⟩ ∧ ltL N C'
  | [], C, C', h, hC, _ => by simp only [fillAV, Option.some.injEq] at h; subst h; exact ⟨rfl, hC⟩
  | (i, x) :: l, C, C', h, hC, hl => by
    simp only [fillAV] at h
    cases hp : place[i]? with
    | none => rw [hp] at h; cases h
    | some q =>
      obtain ⟨off, sz⟩ := q
      rw [hp] at h
      simp only at h
      cases hb : (Nat.beq x.cells.length sz && Nat.ble (off + sz) C.length) with
      | false => rw [hb] at h; cases h
      | true =>
        rw [hb] at h
        simp only [cond_true] at h
        rw [Bool.and_eq_true] at hb
        have h1 := Nat.eq_of_beq_eq_true hb.1
        have h2 := Nat.le_of_ble_eq_true hb.2
        obtain ⟨e1, e2⟩ := fillAV_spec (E := E) (N := N) l _ _ h (layAV_lt _ _ _ hC (AV.cells_lt (hl (i, x) (by simp)))) (fun p hp => hl p (List.mem_cons_of_mem _ hp))
        refine ⟨?_, e2⟩
        simp only [List.map_cons, Instr.fill]
        have hpa : place.toArray[i]? = some (off, sz) := by simpa using hp
        rw [hpa]
        simp only [AV.cells_emb]
        have hc : ((decide ((⟨embL E x.cells⟩ : Array Value).size ≠ sz) || decide (off + (⟨embL E x.cells⟩ : Array Value).size > (⟨embL E C⟩ : Array Value).size)) = true) ↔ False := by
          simp [embL_length, h1]; omega
        simp only [hc, if_false]
        have hs := setL_set (C := embL E C) (i := off) (vs := embL E x.cells) 0
        have hz : (⟨embL E x.cells⟩ : Array Value).zipIdx.foldl (fun (cs : Array Value) (p : Value × Nat) => cs.setIfInBounds (off + p.2) p.1) ⟨embL E C⟩ = ⟨embL E (layAV C off x.cells)⟩ := by
          rw [← Array.foldl_toList, Array.toList_zipIdx, layAV_emb]
          simpa using hs
        rw [hz]
        exact e1
/-- where a struct's fields lie -/
def plL (P : Program) : List Field → Option (List (Nat × Nat))
  | [] => some []
  | f :: l => match sizeP P f.type with
    | some n => match plL P l with
      | some r => some ((f.offset, n) :: r)
      | none => none
    | none => none
theorem plL_spec {P : Program} : ∀ {l : List Field} {r : List (Nat × Nat)}, plL P l = some r → r.length = l.length ∧ ∀ (i : Nat) (f : Field) (v : Nat × Nat), l[i]? = some f → r[i]? = some v → ∀ w, (do pure (f.offset, ← sizeOf f.type) : Sem (Nat × Nat)).run P w = .ok v w
  | [], r, h => by simp only [plL, Option.some.injEq] at h; subst h; exact ⟨rfl, fun i f v h => by simp at h⟩
  | f :: l, r, h => by
    simp only [plL] at h
    split at h
    · next n hn =>
      split at h
      · next r' hr =>
        injection h with h; subst h
        obtain ⟨h1, h2⟩ := plL_spec hr
        refine ⟨by simp [h1], fun i g v hi hv w => ?_⟩
        cases i with
        | zero =>
          simp at hi hv; subst hi; subst hv
          rw [Sem.run_bind, runP_run _ _ hn]; rfl
        | succ i => exact h2 i g v (by simpa using hi) (by simpa using hv) w
      · cases h
    · cases h
def partsB (ρ : Operand → AV) : List (Nat × Operand) → List (Nat × AV)
  | [] => []
  | (i, x) :: l => (i, ρ x) :: partsB ρ l
def evBuild (P : Program) (ρ : Operand → AV) (t : TypeId) (parts : List (Nat × Operand)) : Option AV :=
  match zeroP P t, undP P t with
  | some z, some (.struct fs) => match plL P fs.toList with
    | some pl => match fillAV pl (AV.v z).cells (partsB ρ parts) with
      | some C => some (.a C)
      | none => none
    | none => none
  | _, _ => none
/-- a field of a value -/
def evField (P : Program) (s : TypeId) (f : Nat) (x : AV) : Option AV :=
  match x, undP P s with
  | .a cs, some (.struct fs) => match fs.toList[f]? with
    | some g => match aggP P g.type with
      | some false => cs[g.offset]?
      | some true => match sizeP P g.type with
        | some n => bif Nat.ble (g.offset + n) cs.length then some (.a ((cs.drop g.offset).take n)) else none
        | none => none
      | none => none
    | none => none
  | _, _ => none
/-- the elements named by an array of operands, all of them flat -/
def flatOps (ρ : Operand → AV) : List Operand → Bool
  | [] => true
  | x :: l => match (ρ x).val with
    | some _ => flatOps ρ l
    | none => false
def flatEv (ρ : Operand → AV) (x : Operand) : Value := match (ρ x).val with
  | some v => v
  | none => undef
def noSel : Op → Bool
  | .select .. => false
  | _ => true
def flatRun (P : Program) (ρ : Operand → AV) (o : Oper) : Option AV :=
  bif noSel o.op && flatOps ρ o.op.operands.toList then
    match runP P (execOp (flatEv ρ) o) with
    | some (.value v) => some (.v v)
    | _ => none
  else none
theorem flatOps_spec {ρ : Operand → AV} {E : Env} {ε : Operand → Value} : ∀ {l : List Operand}, (∀ x ∈ l, ε x = (ρ x).emb E) → flatOps ρ l = true → ∀ x ∈ l, ε x = flatEv ρ x
  | [], _, _, x, hx => by cases hx
  | y :: l, hε, h, x, hx => by
    simp only [flatOps] at h
    cases hy : (ρ y).val with
    | none => simp [hy] at h
    | some v =>
      simp only [hy] at h
      rcases List.mem_cons.1 hx with rfl | hx
      · rw [hε x (by simp)]
        unfold flatEv
        rw [hy]
        exact AV.val_emb E _ _ hy
      · exact flatOps_spec (fun z hz => hε z (List.mem_cons_of_mem _ hz)) h x hx
theorem flatRun_spec {P : Program} {ρ : Operand → AV} {o : Oper} {a : AV} {E : Env} {ε : Operand → Value} (hε : ∀ x ∈ o.op.operands, ε x = (ρ x).emb E) (h : flatRun P ρ o = some a) :
    ∃ v, a = .v v ∧ ∀ w, (execOp ε o).run P w = .ok (.value v) w := by
  unfold flatRun at h
  cases hc : (noSel o.op && flatOps ρ o.op.operands.toList) with
  | false => simp [hc] at h
  | true =>
    simp only [hc, cond_true] at h
    rw [Bool.and_eq_true] at hc
    have hs : ∀ cs b, o.op ≠ .select cs b := fun cs b he => by rw [he] at hc; simp [noSel] at hc
    have he : execOp ε o = execOp (flatEv ρ) o := execOp_congr o hs fun x hx => flatOps_spec (fun y hy => hε y (by simpa using hy)) hc.2 x (by simpa using hx)
    split at h
    · next v hv =>
      injection h with h
      refine ⟨v, h.symm, fun w => ?_⟩
      rw [he]
      exact runP_run _ _ hv w
    · cases h

/-! ### operations that yield a value and leave memory as it is -/
def isNilC : AV → Bool
  | .v (.slice none 0 0) => true
  | .v (.pointer none) => true
  | .v (.map none) => true
  | .v .nilFunc => true
  | _ => false
/-- what is held against nil, of which types -/
def nilCmp (P : Program) (t : TypeId) (x y : AV) : Bool :=
  match undP P t, x, y with
  | some (.slice _), .s _ _ _ _, .v (.slice none _ _) => true
  | some (.pointer _), .p _ _, .v (.pointer none) => true
  | some (.map _ _), .m _, .v (.map none) => true
  | some (.func _ _ _), .f _ _, .v .nilFunc => true
  | _, _, _ => false
def avOps (ρ : Operand → AV) : List Operand → List AV
  | [] => []
  | x :: l => ρ x :: avOps ρ l
def bound (y : Nat) : AV → Option Nat
  | .v (.int .i64 n) => bif decide (0 ≤ n) && decide (n ≤ y) then some n.toNat else none
  | _ => none
def evSlice (P : Program) (ρ : Operand → AV) (h : AH) (t : TypeId) (x : Operand) (lo hi mx : Option Operand) : Option AV :=
  match ρ x, mx, elemP P t with
  | .s k off len (some c), none, some (_, sz) =>
    match (match hi with | some y => bound c (ρ y) | none => some len) with
    | none => none
    | some g => match (match lo with | some y => bound g (ρ y) | none => some 0) with
      | none => none
      | some l => bif Nat.beq c l then some (.s k off (g - l) (some (c - l))) else some (.s k (off + l * sz) (g - l) (some (c - l)))
  | .s k off len none, none, some (_, _) =>
    match lo with
    | none => match h.get k with
      | some (.o _ _ n _) => bif Nat.ble len n then (match (match hi with | some y => bound len (ρ y) | none => some len) with
        | some g => some (.s k off g none)
        | none => none) else none
      | _ => none
    | some _ => none
  | _, _, _ => none
def evP (P : Program) (ρ : Operand → AV) (h : AH) (o : Oper) : Option AV :=
  match o.op with
  | .move x => some (ρ x)
  | .assign x => some (ρ x)
  | .pick c a b => match ρ c with
    | .v (.bool t) => some (bif t then ρ a else ρ b)
    | _ => none
  | .extract x i => match ρ x with
    | .t l => l[i]?
    | _ => flatRun P ρ o
  | .nilCheck x => match ρ x with
    | .p k off => some (.p k off)
    | .f (.func f) cs => some (.f (.func f) cs)
    | _ => flatRun P ρ o
  | .fieldAddr s x f => match ρ x, fldP P s f with
    | .p k off, some d => some (.p k (off + d))
    | _, _ => none
  | .indexAddr t x i => match ρ x, ρ i, elemP P t with
    | .s k off len _, .v (.int _ n), some (_, sz) => bif decide (0 ≤ n) && decide (n < len) then some (.p k (off + n.toNat * sz)) else none
    | _, _, _ => none
  | .load t x => match ρ x, aggP P t with
    | .p k off, some false => match h.get k with
      | some b => b.cells[off]?
      | none => none
    | .p k off, some true => match h.get k, sizeP P t with
      | some b, some n => bif Nat.ble (off + n) b.cells.length then some (.a ((b.cells.drop off).take n)) else none
      | _, _ => none
    | _, _ => none
  | .binOp op t x y _ => match flatRun P ρ o with
    | some v => some v
    | none => bif nilCmp P t (ρ x) (ρ y) then (match op with | .eql => some (.v (.bool false)) | .neq => some (.v (.bool true)) | _ => none) else none
  | .makeFunc (.func f) ⟨[]⟩ cs => some (.f (.func f) (avOps ρ cs.toList))
  | .build t parts => match evBuild P ρ t parts.toList with
    | some v => some v
    | none => flatRun P ρ o
  | .field s x f => match evField P s f (ρ x) with
    | some v => some v
    | none => flatRun P ρ o
  | .slice t x lo hi mx => match evSlice P ρ h t x lo hi mx with
    | some v => some v
    | none => flatRun P ρ o
  | .call ⟨.builtin .len, ⟨[x]⟩, tys⟩ => match ρ x with
    | .s _ _ len _ => match tys.toList with
      | [t] => match elemP P t with
        | some _ => some (.v (.int .i64 len))
        | none => none
      | _ => none
    | _ => flatRun P ρ o
  | _ => flatRun P ρ o

theorem mem_ops {x : Operand} {l : List Operand} (h : x ∈ l) : x ∈ (⟨l⟩ : Array Operand) := by simpa using h
theorem bound_spec {y : Nat} {x : AV} {n : Nat} {E : Env} {P : Program} {w : World} {cd : BoundsCode} (h : bound y x = some n) : (Instr.sliceBound (x.emb E) y cd).run P w = .ok n w ∧ n ≤ y := by
  unfold bound at h
  split at h
  · next m =>
    cases hc : (decide (0 ≤ m) && decide (m ≤ y)) with
    | false => simp [hc] at h
    | true =>
      simp only [hc, cond_true, Option.some.injEq] at h
      simp only [Bool.and_eq_true, decide_eq_true_eq] at hc
      subst h
      refine ⟨?_, by omega⟩
      simp [Instr.sliceBound, AV.emb, asIntOf, go_sem, hc]
  · cases h
theorem slice_none {P : Program} {w : World} {E : Env} {t e : TypeId} {sz k off len c : Nat} {lo hi : Option AV} {g l : Nat} [T : ElS P t e sz]
    (hg : (match hi with | some y => bound c y | none => some len) = some g) (hl : (match lo with | some y => bound g y | none => some 0) = some l) :
    (Instr.sliceAt t (.slice (some ⟨k, off, none⟩) len c) (lo.map (AV.emb E)) (hi.map (AV.emb E)) none).run P w = .ok (.slice (some ⟨k, if c = l then off else off + l * sz, none⟩) (g - l) (c - l)) w := by
  unfold Instr.sliceAt Instr.slice Instr.sliceBounds
  have fin : (if c = l then (some ⟨k, off, none⟩ : Option Addr) else some ⟨k, off + l * sz, none⟩) = some ⟨k, if c = l then off else off + l * sz, none⟩ := by
    split <;> rfl
  cases hi with
  | none =>
    simp only [Option.some.injEq] at hg
    subst hg
    cases lo with
    | none =>
      simp only [Option.some.injEq] at hl
      subst hl
      simp [go_sem, T.und, T.size]
    | some y =>
      simp [go_sem, T.und, T.size, (bound_spec (E := E) (P := P) (w := w) hl).1, add_mk]
      exact fin
  | some z =>
    cases lo with
    | none =>
      simp only [Option.some.injEq] at hl
      subst hl
      simp [go_sem, T.und, T.size, (bound_spec (E := E) (P := P) (w := w) hg).1]
    | some y =>
      simp [go_sem, T.und, T.size, (bound_spec (E := E) (P := P) (w := w) hg).1, (bound_spec (E := E) (P := P) (w := w) hl).1, add_mk]
      exact fin
theorem avOps_emb {ρ : Operand → AV} {E : Env} {ε : Operand → Value} : ∀ {l : List Operand}, (∀ x ∈ l, ε x = (ρ x).emb E) → l.map ε = embL E (avOps ρ l)
  | [], _ => by simp [avOps, embL]
  | x :: l, h => by
    simp only [List.map_cons, avOps, embL]
    rw [h x (by simp), avOps_emb fun y hy => h y (List.mem_cons_of_mem _ hy)]
theorem avOps_lt {ρ : Operand → AV} {N : Nat} : ∀ {l : List Operand}, (∀ x ∈ l, (ρ x).lt N) → ltL N (avOps ρ l)
  | [], _ => by simp [avOps, ltL]
  | x :: l, h => by
    simp only [avOps, ltL]
    exact ⟨h x (by simp), avOps_lt fun y hy => h y (List.mem_cons_of_mem _ hy)⟩

section
variable {P : Program} {ρ : Operand → AV} {h : AH} {E : Env} {w : World} {N : Nat} {ε : Operand → Value} {dst : Option Tmp} {ty : TypeId} {pos : String} {af : Array Edge} {gd : Option (Nat × Bool)}
theorem flat_spec {o : Oper} {a : AV} (hε : ∀ x ∈ o.op.operands, ε x = (ρ x).emb E) (hev : flatRun P ρ o = some a) : (execOp ε o).run P w = .ok (.value (a.emb E)) w ∧ a.lt N := by
  obtain ⟨v, rfl, hv⟩ := flatRun_spec hε hev
  exact ⟨by simpa [AV.emb] using hv w, by simp [AV.lt]⟩
theorem equal_step {t : TypeId} {x y : Value} {d : TypeDesc} {b : Bool} (hu : ∀ w, (underlying t).run P w = .ok d w)
    (h : d = .slice (match d with | .slice e => e | _ => 0) ∧ (∃ a n c m k, x = .slice (some a) n c ∧ y = .slice none m k) ∧ b = false ∨
      d = .pointer (match d with | .pointer e => e | _ => 0) ∧ (∃ a, x = .pointer (some a) ∧ y = .pointer none) ∧ b = false ∨
      (∃ k v, d = .map k v) ∧ (∃ a, x = .map (some a) ∧ y = .map none) ∧ b = false ∨
      (∃ p q r, d = .func p q r) ∧ (∃ fn a c, x = .func fn a c ∧ y = .nilFunc) ∧ b = false) : (Op.equal t x y).run P w = .ok b w := by
  show (Op.equalIn (9999 + 1) t x y).run P w = _
  rw [Op.equalIn, Sem.run_bind, hu]
  rcases h with ⟨e, ⟨a, n, c, m, k, rfl, rfl⟩, rfl⟩ | ⟨e, ⟨a, rfl, rfl⟩, rfl⟩ | ⟨⟨k, v, rfl⟩, ⟨a, rfl, rfl⟩, rfl⟩ | ⟨⟨p, q, r, rfl⟩, ⟨fn, a, c, rfl, rfl⟩, rfl⟩
  · rw [e]; rfl
  · rw [e]; rfl
  · rfl
  · rfl
theorem run_nilcmp {t : TypeId} {x y : AV} (hc : nilCmp P t x y = true) : (Op.equal t (x.emb E) (y.emb E)).run P w = .ok false w ∧ ∀ op a b, eqGuard op t a b (x.emb E) (y.emb E) = pure () := by
  unfold nilCmp at hc
  split at hc
  case h_1 e k o l c n m hu =>
    cases c
    · simp only [AV.emb]
      exact ⟨equal_step (runP_run _ _ hu) (.inl ⟨rfl, ⟨_, _, _, _, _, rfl, rfl⟩, rfl⟩), fun op a b => by unfold eqGuard; cases op <;> rfl⟩
    · simp only [AV.emb]
      exact ⟨equal_step (runP_run _ _ hu) (.inl ⟨rfl, ⟨_, _, _, _, _, rfl, rfl⟩, rfl⟩), fun op a b => by unfold eqGuard; cases op <;> rfl⟩
  case h_2 e k o hu =>
    simp only [AV.emb]
    exact ⟨equal_step (runP_run _ _ hu) (.inr (.inl ⟨rfl, ⟨_, rfl, rfl⟩, rfl⟩)), fun op a b => by unfold eqGuard; cases op <;> rfl⟩
  case h_3 e k o hu =>
    simp only [AV.emb]
    exact ⟨equal_step (runP_run _ _ hu) (.inr (.inr (.inl ⟨⟨_, _, rfl⟩, ⟨_, rfl, rfl⟩, rfl⟩))), fun op a b => by unfold eqGuard; cases op <;> rfl⟩
  case h_4 hu =>
    simp only [AV.emb]
    exact ⟨equal_step (runP_run _ _ hu) (.inr (.inr (.inr ⟨⟨_, _, _, rfl⟩, ⟨_, _, _, rfl, rfl⟩, rfl⟩))), fun op a b => by unfold eqGuard; cases op <;> rfl⟩
  case h_5 => cases hc
theorem binOp_nil {t : TypeId} {x y : AV} {b : Bool} (hc : nilCmp P t x y = true) (op : BinOp) (hb : op = .eql ∧ b = false ∨ op = .neq ∧ b = true) : (binOp op t (x.emb E) (y.emb E)).run P w = .ok (.bool b) w := by
  have := (run_nilcmp (E := E) (w := w) hc).1
  unfold nilCmp at hc
  split at hc
  case h_1 e k o l c n m hu => rcases hb with ⟨rfl, rfl⟩ | ⟨rfl, rfl⟩ <;> cases c <;> simp [binOp, AV.emb, go_sem] at this ⊢ <;> simp [this]
  case h_2 e k o hu => rcases hb with ⟨rfl, rfl⟩ | ⟨rfl, rfl⟩ <;> simp [binOp, AV.emb, go_sem] at this ⊢ <;> simp [this]
  case h_3 e k o hu => rcases hb with ⟨rfl, rfl⟩ | ⟨rfl, rfl⟩ <;> simp [binOp, AV.emb, go_sem] at this ⊢ <;> simp [this]
  case h_4 hu => rcases hb with ⟨rfl, rfl⟩ | ⟨rfl, rfl⟩ <;> simp [binOp, AV.emb, go_sem] at this ⊢ <;> simp [this]
  case h_5 => cases hc
theorem evP_spec {o : Oper} {a : AV} (r : RH E h w) (hN : h.nx ≤ N) (hρ : ∀ x ∈ o.op.operands, (ρ x).lt N) (hε : ∀ x ∈ o.op.operands, ε x = (ρ x).emb E) (hev : evP P ρ h o = some a) :
    (execOp ε o).run P w = .ok (.value (a.emb E)) w ∧ a.lt N := by
  unfold evP at hev
  obtain ⟨dst, op, ty, pos, af, gd⟩ := o
  simp only at hρ hε hev
  split at hev
  case h_1 x => injection hev with hev; subst hev; exact ⟨run_move (hε x (by simp [Op.operands])), hρ x (by simp [Op.operands])⟩
  case h_2 x => injection hev with hev; subst hev; exact ⟨run_assign (hε x (by simp [Op.operands])), hρ x (by simp [Op.operands])⟩
  case h_3 c x y =>
    split at hev
    · next t hc =>
      injection hev with hev; subst hev
      have h1 := hε c (by simp [Op.operands])
      rw [hc] at h1
      simp only [AV.emb] at h1
      rw [run_pick h1, hε x (by simp [Op.operands]), hε y (by simp [Op.operands])]
      cases t
      · exact ⟨rfl, hρ y (by simp [Op.operands])⟩
      · exact ⟨rfl, hρ x (by simp [Op.operands])⟩
    · cases hev
  case h_4 x i =>
    split at hev
    · next l hl =>
      have h1 := hε x (by simp [Op.operands])
      have h2 := hρ x (by simp [Op.operands])
      rw [hl] at h1 h2
      simp only [AV.emb] at h1
      simp only [AV.lt] at h2
      exact ⟨run_extract h1 (by simpa using embL_get hev), ltL_get h2 hev⟩
    · exact flat_spec hε hev
  case h_5 x =>
    have h1 := hε x (by simp [Op.operands])
    have h2 := hρ x (by simp [Op.operands])
    split at hev
    · next k off hx =>
      injection hev with hev; subst hev
      rw [hx] at h1 h2
      exact ⟨by simp only [AV.emb] at h1 ⊢; exact run_nilCheckP h1, h2⟩
    · next f cs hx =>
      injection hev with hev; subst hev
      rw [hx] at h1 h2
      simp only [AV.emb] at h1
      exact ⟨by simp [execOp, h1, go_sem, AV.emb], h2⟩
    · exact flat_spec hε hev
  case h_6 s x f =>
    have h1 := hε x (by simp [Op.operands])
    have h2 := hρ x (by simp [Op.operands])
    split at hev
    · next k off d hx hd =>
      injection hev with hev; subst hev
      rw [hx] at h1 h2
      simp only [AV.emb] at h1
      have := (fldP_spec hd).run ⟨(E k).1, off, none⟩ w
      rw [add_mk] at this
      refine ⟨?_, by simpa [AV.lt] using h2⟩
      simp only [execOp, h1, AV.emb]
      exact run_v this
    · cases hev
  case h_7 t x i =>
    have h1 := hε x (by simp [Op.operands])
    have h2 := hρ x (by simp [Op.operands])
    have h3 := hε i (by simp [Op.operands])
    split at hev
    · next k off len c ik n e sz hx hi he =>
      have T := elemP_spec he
      cases hc : (decide (0 ≤ n) && decide (n < len)) with
      | false => simp [hc] at hev
      | true =>
        simp only [hc, cond_true, Option.some.injEq] at hev
        simp only [Bool.and_eq_true, decide_eq_true_eq] at hc
        subst hev
        rw [hx] at h1 h2
        rw [hi] at h3
        refine ⟨?_, by simpa [AV.lt] using h2⟩
        simp only [execOp, h3]
        have key : ∀ cap, ε x = .slice (some ⟨(E k).1, off, none⟩) len cap → (Instr.indexAt t (ε x) (AV.emb E (.v (.int ik n)))).run P w = .ok (.pointer (some ⟨(E k).1, off + n.toNat * sz, none⟩)) w := fun cap hcap => by
          rw [hcap]
          simp only [AV.emb]
          unfold Instr.indexAt
          simp [go_sem, asIntOf, T.und, T.size, hc, add_mk]
        refine run_v ?_
        cases c with
        | none => exact key _ (by simpa only [AV.emb] using h1)
        | some c => exact key _ (by simpa only [AV.emb] using h1)
    · cases hev
  case h_8 t x =>
    have h1 := hε x (by simp [Op.operands])
    split at hev
    · next k off hx ha =>
      rw [hx] at h1
      simp only [AV.emb] at h1
      split at hev
      · next b hb =>
        have hc := r.cell hb hev
        refine ⟨?_, AV.lt_mono hN _ (ltL_get (r.lt k b hb) hev)⟩
        simp only [execOp, h1]
        refine run_v ?_
        show (loadVar t ⟨(E k).1, off, none⟩).run P w = _
        unfold loadVar
        simp [go_sem, runP_run _ _ ha, hc]
      · cases hev
    · next k off hx ha =>
      rw [hx] at h1
      simp only [AV.emb] at h1
      split at hev
      · next b n hb hn =>
        cases hc : Nat.ble (off + n) b.cells.length with
        | false => simp [hc] at hev
        | true =>
          simp only [hc, cond_true, Option.some.injEq] at hev
          subst hev
          have hle := Nat.le_of_ble_eq_true hc
          have hlt := r.lt k b hb
          refine ⟨?_, ?_⟩
          · simp only [execOp, h1]
            refine run_v ?_
            show (loadVar t ⟨(E k).1, off, none⟩).run P w = _
            unfold loadVar
            have hcell : ∀ i v, (embL E (b.cells.drop off))[i]? = some v → w.cell? ⟨(E k).1, off + i, none⟩ = some v := fun i v hv => by
              rw [embL_get'] at hv
              simp only [List.getElem?_drop, Option.map_eq_some_iff] at hv
              obtain ⟨y, hy, rfl⟩ := hv
              exact r.cell hb hy
            have := run_loadCells_cells (P := P) (o := off) hcell n 0 #[] (by rw [embL_length, List.length_drop]; omega)
            simp [go_sem, runP_run _ _ ha, runP_run _ _ hn, loadCells, this, AV.emb, embL_map, List.map_take]
          · simp only [AV.lt]
            exact ltL_iff.2 fun y hy => AV.lt_mono hN _ (ltL_iff.1 hlt y (List.mem_of_mem_drop (List.mem_of_mem_take hy)))
      · cases hev
    · cases hev
  case h_9 op t x y yt =>
    split at hev
    · next v hv => injection hev with hev; subst hev; exact flat_spec hε hv
    · have h1 := hε x (by simp [Op.operands])
      have h2 := hε y (by simp [Op.operands])
      cases hc : nilCmp P t (ρ x) (ρ y) with
      | false => simp [hc] at hev
      | true =>
        simp only [hc, cond_true] at hev
        have hg := (run_nilcmp (E := E) (w := w) hc).2 op x y
        split at hev
        · injection hev with hev; subst hev
          have := binOp_nil (E := E) (w := w) (b := false) hc .eql (.inl ⟨rfl, rfl⟩)
          exact ⟨by simp [execOp, h1, h2, hg, go_sem, this, AV.emb], by simp [AV.lt]⟩
        · injection hev with hev; subst hev
          have := binOp_nil (E := E) (w := w) (b := true) hc .neq (.inr ⟨rfl, rfl⟩)
          exact ⟨by simp [execOp, h1, h2, hg, go_sem, this, AV.emb], by simp [AV.lt]⟩
        · cases hev
  case h_10 f cs =>
    injection hev with hev; subst hev
    have h1 := avOps_emb (l := cs.toList) (fun x hx => hε x (by simp only [Op.operands]; simpa using hx))
    have h2 := avOps_lt (l := cs.toList) (fun x hx => hρ x (by simp only [Op.operands]; simpa using hx))
    refine ⟨?_, by simpa [AV.lt] using h2⟩
    have h3 : cs.map ε = ⟨embL E (avOps ρ cs.toList)⟩ := by rw [← h1]; exact Array.ext' (by simp)
    simp [execOp, Instr.makeFunc, h3, go_sem, AV.emb]
  case h_11 t parts =>
    split at hev
    · next v hv =>
      injection hev with hev; subst hev
      unfold evBuild at hv
      split at hv
      · next z fs hz hu =>
        split at hv
        · next pl hpl =>
          split at hv
          · next C hC =>
            injection hv with hv; subst hv
            have mem : ∀ p ∈ parts.toList, p.2 ∈ (Op.build t parts).operands := fun p hp => by
              simp only [Op.operands]; simpa using ⟨p.1, by simpa using hp⟩
            have hpl2 : ∀ (l : List (Nat × Operand)), (∀ p ∈ l, ε p.2 = (ρ p.2).emb E ∧ (ρ p.2).lt N) → (partsB ρ l).map (fun p => (p.1, p.2.emb E)) = l.map (fun p => (p.1, ε p.2)) ∧ ∀ p ∈ partsB ρ l, p.2.lt N := by
              intro l
              induction l with
              | nil => intro _; simp [partsB]
              | cons p l ih =>
                intro hl
                obtain ⟨i, x⟩ := p
                obtain ⟨i1, i2⟩ := ih fun q hq => hl q (List.mem_cons_of_mem _ hq)
                have := hl (i, x) (by simp)
                refine ⟨by simp only [partsB, List.map_cons, i1, this.1], fun q hq => ?_⟩
                simp only [partsB] at hq
                rcases List.mem_cons.1 hq with rfl | hq
                · exact this.2
                · exact i2 q hq
            obtain ⟨p1, p2⟩ := hpl2 parts.toList fun p hp => ⟨hε _ (mem p hp), hρ _ (mem p hp)⟩
            obtain ⟨f1, f2⟩ := fillAV_spec (E := E) (N := N) _ _ _ hC (AV.cells_lt (by simp [AV.lt])) p2
            rw [p1] at f1
            obtain ⟨l1, l2⟩ := plL_spec hpl
            have hm := run_mapM (P := P) (w := w) (as := fs) (f := fun f => (do pure (f.offset, ← sizeOf f.type) : Sem (Nat × Nat))) (vals := pl) (by simpa using l1) (fun i a v h1 h2 => l2 i a v (by simpa using h1) h2 w)
            refine ⟨?_, by simpa only [AV.lt] using f2⟩
            simp only [execOp]
            refine run_v ?_
            have hp' : ((parts.map fun p => (p.1, ε p.2)) : Array (Nat × Value)).toList = parts.toList.map fun p => (p.1, ε p.2) := by simp
            show (Instr.build t (parts.map fun p => (p.1, ε p.2))).run P w = _
            have hzc := AV.cells_emb E (.v z)
            simp only [AV.emb] at hzc
            unfold Instr.build
            rw [hp', Sem.run_bind, runP_run _ _ hz]
            simp only [Result.andThen_ok]
            rw [Sem.run_bind, runP_run _ _ hu]
            simp only [Result.andThen_ok]
            rw [Sem.run_bind, hm]
            simp only [Result.andThen_ok, hzc, f1]
            simp only [AV.emb]
            rfl
          · cases hv
        · cases hv
      · cases hv
    · exact flat_spec hε hev
  case h_12 s x f =>
    split at hev
    · next v hv =>
      injection hev with hev; subst hev
      have h1 := hε x (by simp [Op.operands])
      have h2 := hρ x (by simp [Op.operands])
      unfold evField at hv
      split at hv
      · next cs fs hx hu =>
        rw [hx] at h1 h2
        simp only [AV.emb] at h1
        simp only [AV.lt] at h2
        split at hv
        · next g hg =>
          have hg' : fs[f]? = some g := by simpa using hg
          split at hv
          · next ha =>
            refine ⟨?_, ltL_get h2 hv⟩
            simp only [execOp, h1]
            refine run_v ?_
            have := embL_get (E := E) hv
            simp [Instr.field, asAgg, go_sem, runP_run _ _ hu, hg', part, runP_run _ _ ha, this]
          · next ha =>
            split at hv
            · next n hn =>
              cases hb : Nat.ble (g.offset + n) cs.length with
              | false => rw [hb] at hv; cases hv
              | true =>
                rw [hb] at hv
                simp only [cond_true, Option.some.injEq] at hv
                subst hv
                refine ⟨?_, ?_⟩
                · simp only [execOp, h1]
                  refine run_v ?_
                  have e1 : (⟨embL E cs⟩ : Array Value).extract g.offset (g.offset + n) = ⟨embL E ((cs.drop g.offset).take n)⟩ := by
                    apply Array.ext'
                    simp [embL_map, List.map_take, List.map_drop, List.extract_eq_take_drop]
                  simp only [AV.emb]
                  simp [Instr.field, asAgg, go_sem, runP_run _ _ hu, hg', part, runP_run _ _ ha, runP_run _ _ hn, -List.extract_toArray, e1]
                · simp only [AV.lt]
                  exact ltL_iff.2 fun y hy => ltL_iff.1 h2 y (List.mem_of_mem_drop (List.mem_of_mem_take hy))
            · cases hv
          · cases hv
        · cases hv
      · cases hv
    · exact flat_spec hε hev
  case h_13 t x lo hi mx =>
    split at hev
    · next v hv =>
      injection hev with hev; subst hev
      have h1 := hε x (by simp [Op.operands])
      have h2 := hρ x (by simp [Op.operands])
      unfold evSlice at hv
      have eo : ∀ (z : Option Operand), (∀ y ∈ z.toList, ε y = (ρ y).emb E) → z.map ε = (z.map ρ).map (AV.emb E) := fun z hz => by
        cases z with
        | none => rfl
        | some y => simp [hz y (by simp)]
      have elo := eo lo (fun y hy => hε y (by cases lo <;> simp_all [Op.operands]))
      have ehi := eo hi (fun y hy => hε y (by cases hi <;> simp_all [Op.operands]))
      split at hv
      · next _ _ _ k off len c e sz hx he =>
        have T := elemP_spec he
        rw [hx] at h1 h2
        simp only [AV.emb] at h1
        simp only [AV.lt] at h2
        split at hv
        · cases hv
        · next g hg =>
          split at hv
          · cases hv
          · next l hl =>
            have := slice_none (P := P) (w := w) (E := E) (t := t) (k := (E k).1) (off := off) (len := len) (c := c) (lo := lo.map ρ) (hi := hi.map ρ) (g := g) (l := l)
              (by cases hi <;> simpa using hg) (by cases lo <;> simpa using hl)
            have hrun : (execOp ε ⟨dst, .slice t x lo hi none, ty, pos, af, gd⟩).run P w = .ok (.value (.slice (some ⟨(E k).1, if c = l then off else off + l * sz, none⟩) (g - l) (c - l))) w := by
              simp only [execOp, h1, elo, ehi]
              exact run_v this
            cases hcl : Nat.beq c l with
            | true =>
              have := Nat.eq_of_beq_eq_true hcl
              simp only [hcl, cond_true, Option.some.injEq] at hv
              subst hv
              rw [hrun, if_pos this]
              exact ⟨by simp [AV.emb], by simpa [AV.lt] using h2⟩
            | false =>
              have := RE.T.beq_false hcl
              simp only [hcl, cond_false, Option.some.injEq] at hv
              subst hv
              rw [hrun, if_neg this]
              exact ⟨by simp [AV.emb], by simpa [AV.lt] using h2⟩
      · next _ _ _ k off len e sz hx he =>
        have T := elemP_spec he
        rw [hx] at h1 h2
        simp only [AV.emb] at h1
        simp only [AV.lt] at h2
        split at hv
        · split at hv
          · next bt bs bn bc hb =>
            cases hle : Nat.ble len bn with
            | false => simp [hle] at hv
            | true =>
              simp only [hle, cond_true] at hv
              have hle' := Nat.le_of_ble_eq_true hle
              have hown := r.holds k _ hb
              have hcap : bn ≤ (E k).2 := by
                rcases hown.2 with ⟨e1, _⟩ | ⟨q, cap, cur, e1, _, _, h5, _⟩
                · cases e1
                · injection e1 with _ _ e3; rw [e3]; exact h5
              split at hv
              · next g hg =>
                injection hv with hv; subst hv
                have hg' : (match hi.map ρ with | some y => bound (E k).2 y | none => some len) = some g := by
                  cases hi with
                  | none => simpa using hg
                  | some y =>
                    simp only [Option.map_some] at hg ⊢
                    unfold bound at hg ⊢
                    split at hg
                    · next _ m _ =>
                      cases hc : (decide (0 ≤ m) && decide (m ≤ len)) with
                      | false => simp [hc] at hg
                      | true =>
                        simp only [hc, cond_true] at hg
                        simp only [Bool.and_eq_true, decide_eq_true_eq] at hc
                        have : (decide (0 ≤ m) && decide (m ≤ (E k).2)) = true := by simp; omega
                        simp only [this, cond_true]; exact hg
                    · cases hg
                have := slice_none (P := P) (w := w) (E := E) (t := t) (k := (E k).1) (off := off) (len := len) (c := (E k).2) (lo := none) (hi := hi.map ρ) (g := g) (l := 0) hg' rfl
                refine ⟨?_, by simpa [AV.lt] using h2⟩
                simp only [execOp, h1, ehi]
                refine run_v ?_
                simp only [AV.emb]
                have e0 : (if (E k).2 = 0 then off else off + 0 * sz) = off := by split <;> simp
                rw [e0] at this
                exact this
              · cases hv
          · cases hv
        · cases hv
      · cases hv
    · exact flat_spec hε hev
  case h_14 x tys =>
    split at hev
    · next k off len c hx =>
      split at hev
      · next t ht =>
        split at hev
        · next q hq =>
          injection hev with hev; subst hev
          have T := elemP_spec (e := q.1) (n := q.2) hq
          have h1 := hε x (by simp [Op.operands, Call.operands])
          rw [hx] at h1
          have ht' : tys = #[t] := by cases tys; simp_all
          subst ht'
          refine ⟨?_, by simp [AV.lt]⟩
          have key : ∀ a cap, ε x = .slice a len cap → (execOp ε ⟨dst, .call ⟨.builtin .len, ⟨[x]⟩, #[t]⟩, ty, pos, af, gd⟩).run P w = .ok (.value (.int .i64 len)) w := fun a cap hcap => by
            simp only [execOp, resolve]
            simp [hcap, invoke, builtin, go_sem]
            simp [Builtin.len_, go_sem, T.und, goInt]
          cases c with
          | none => exact key _ _ (by simpa only [AV.emb] using h1)
          | some c => exact key _ _ (by simpa only [AV.emb] using h1)
        · cases hev
      · cases hev
    · exact flat_spec hε hev
  case h_15 => exact flat_spec hε hev
end
end Go.RE
