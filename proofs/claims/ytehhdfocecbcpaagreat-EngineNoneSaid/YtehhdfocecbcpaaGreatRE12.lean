/- Part of a proof: the tools that its last text leans on (RE12). -/
import Derived.Test.YtehhdfocecbcpaaGreatRE11
import Derived.RangeFuncFrom
import Derived.RangeFuncLeaves
namespace Go.RE
open Go Go.RowKit Go.Eng

/-! ### a function that ranges over an iterator that yields nothing -/
section
variable {P : Program} {F : FT} {orc : CallF} {L k : Nat}
def ev1 (P : Program) (call : CallF) (n : Nat) (ordT : OrdT) (L : Nat) (c : Code) (x : Option (R × AH)) : Option (R × AH) := match x with
  | some (r, h) => match evC P call n ordT L c r h with
    | some (.normal, r', h') => some (r', h')
    | _ => none
  | none => none
/-- block k alone is a cell of the value v -/
def cellIs (h : AH) (k : Nat) : Option (TypeId × Value) := match h.get k with
  | some (.c ty [.v x]) => some (ty, x)
  | _ => none
/-- the iterator, its first captured variable at key 0: it turns nothing -/
theorem iter_none (hF : FTok P F) (ho : CallOK P orc) {g : FuncId} {ty : TypeId} {x : Value} (hx : one1 x = true)
    (hit : ∀ (y : Nat) (p2 p3 : Value), (callN P F orc L k g [.v (.func (.yield y) #[] #[]), .p 0 0, .v p2, .v p3] ⟨T.set 30 .e 0 (some (.c ty [.v x])), 1, .e, 0⟩).map (fun p => cellIs p.2 0) = some (some (ty, x)))
    {w : World} {b : Nat} (hb : w.heap[b]? = some (.cells ⟨[x]⟩ ty (0, 0))) (y : Nat) (p2 p3 : Value) : Calls P g (#[.func (.yield y) #[] #[]] ++ #[.pointer (some ⟨b, 0, none⟩), p2, p3]) w fun e w' => (∃ v, e = .returned v) ∧ w.grownBy w' none := by
  have h1 := hit y p2 p3
  cases hc : callN P F orc L k g [.v (.func (.yield y) #[] #[]), .p 0 0, .v p2, .v p3] ⟨T.set 30 .e 0 (some (.c ty [.v x])), 1, .e, 0⟩ with
  | none => rw [hc] at h1; cases h1
  | some p =>
    obtain ⟨v, h'⟩ := p
    rw [hc] at h1
    simp only [Option.map_some, Option.some.injEq] at h1
    have hg : h'.get 0 = some (.c ty [.v x]) := by
      unfold cellIs at h1
      split at h1
      · next ty' x' hq =>
        simp only [Option.some.injEq, Prod.mk.injEq] at h1
        obtain ⟨rfl, rfl⟩ := h1
        exact hq
      · cases h1
    obtain ⟨_, _, hh⟩ := callN_ok hF ho k _ _ _ _ _ hc
    have hget : ∀ j z, (⟨T.set 30 .e 0 (some (.c ty [.v x])), 1, .e, 0⟩ : AH).get j = some z → j = 0 ∧ z = .c ty [.v x] := fun j z hz => by
      have h2 : (T.set 30 (.e : T Blk) 0 (some (.c ty [.v x]))).get j = some z := hz
      rw [T.get_set] at h2
      by_cases hj : j = 0
      · rw [if_pos hj] at h2; injection h2 with h2; exact ⟨hj, h2.symm⟩
      · rw [if_neg hj, T.get_e] at h2; cases h2
    have hlt := (Array.getElem?_eq_some_iff.1 hb).1
    have := hh (fun _ => (b, 0)) w ⟨fun j z hz => by obtain ⟨rfl, _⟩ := hget j z hz; exact Nat.one_pos, fun j z hz => by obtain ⟨_, rfl⟩ := hget j z hz; simp [Blk.lt, Blk.cells, ltL, AV.lt],
      fun j z hz => hlt, fun j z hz => by obtain ⟨_, rfl⟩ := hget j z hz; simpa [Blk.holds, embL, AV.emb] using hb, fun j z j' z' h2 h3 _ => by rw [(hget j z h2).1, (hget j' z' h3).1]⟩ (by simp [ltL, AV.lt])
    simp only [embL, AV.emb] at this
    refine this.mono ?_
    rintro e w' ⟨E', rfl, hfr, hr, _⟩
    refine ⟨⟨_, rfl⟩, ⟨hfr.os, hfr.tape, hfr.output, hfr.size, fun q hq _ => ?_⟩⟩
    by_cases hqb : q = b
    · subst hqb
      have h4 := hr.holds 0 _ hg
      have h5 : (E' 0).1 = q := by rw [hfr.env 0 Nat.one_pos]
      simp only [Blk.holds, embL, AV.emb, h5] at h4
      rw [h4, hb]
    · exact hfr.frame q hq fun j z hz => fun e => hqb e.symm
theorem regs0_rw {n N : Nat} {args : List AV} (hl : args.length ≤ n) (hN : ltL N args) : RW n (regs0 args 0 .e) N := by
  have hget : ∀ t, T.get (regs0 args 0 .e) t = args[t]? := fun t => by rw [regs0_get _ _ _ _ fun t _ => T.get_e t]; simp
  refine ⟨fun t => ?_, fun t ht => by rw [hget]; exact List.getElem?_eq_none (by omega)⟩
  unfold rget
  rw [hget]
  cases ht : args[t]? with
  | none => simp [AV.lt]
  | some x => exact ltL_get hN ht
theorem regs0_act {n : Nat} {args : List AV} (hl : args.length ≤ n) (E : Env) : A [] n E (regs0 args 0 .e) = { tmps := (⟨embL E args⟩ : Array Value) ++ Array.replicate (n - (⟨embL E args⟩ : Array Value).size) undef, defers := [] } := by
  have hget : ∀ t, T.get (regs0 args 0 .e) t = args[t]? := fun t => by rw [regs0_get _ _ _ _ fun t _ => T.get_e t]; simp
  have := acts_rg0 (embL E args) n (by rw [embL_length]; exact hl)
  rw [← this]
  show acts n (rho E (regs0 args 0 .e)) = _
  congr 1
  funext t
  simp only [rho, rg0, rget, hget]
  rw [List.getD_eq_getElem?_getD, embL_get']
  cases args[t]? <;> simp [AV.emb]
theorem ev1_some {call : CallF} {n : Nat} {ordT : OrdT} {c : Code} {x : Option (R × AH)} {r' : R} {h' : AH} (h : ev1 P call n ordT L c x = some (r', h')) : ∃ r h0, x = some (r, h0) ∧ evC P call n ordT L c r h0 = some (.normal, r', h') := by
  unfold ev1 at h
  split at h
  · next r h0 =>
    split at h
    · next r1 h1 he =>
      simp only [Option.some.injEq, Prod.mk.injEq] at h
      obtain ⟨rfl, rfl⟩ := h
      exact ⟨r, h0, rfl, he⟩
    · cases h
  · cases h
/-- the whole -/
theorem range_none (hF : FTok P F) (ho : CallOK P orc) {f g : FuncId} {fn : Func} {c0 c1 c2 c4 c5 cr as body : Code} {id : Nat} {gop : Operand} {ps : Array Tmp} {args : List Value} {v : Value} {ty : TypeId} {x : Value}
    (hf : F.fn f = some fn) (hb : fn.body = some (.seq c0 (.seq c1 (.seq c2 (.seq c4 (.seq (.seq c5 (.block id (.rangeFunc gop ps as body))) cr))))))
    (hn : Nat.ble args.length fn.ntmps = true) (hx : one1 x = true)
    (hit : ∀ (y : Nat) (p2 p3 : Value), (callN P F orc L k g [.v (.func (.yield y) #[] #[]), .p 0 0, .v p2, .v p3] ⟨T.set 30 .e 0 (some (.c ty [.v x])), 1, .e, 0⟩).map (fun p => cellIs p.2 0) = some (some (ty, x)))
    (hgc : ∀ as w, (callFunc g as).run P w = .ok (.enter g as) w)
    (hpre : ((ev1 P (callN P F orc L k) fn.ntmps (F.ord f) L c5 (ev1 P (callN P F orc L k) fn.ntmps (F.ord f) L c4 (ev1 P (callN P F orc L k) fn.ntmps (F.ord f) L c2 (ev1 P (callN P F orc L k) fn.ntmps (F.ord f) L c1
      (ev1 P (callN P F orc L k) fn.ntmps (F.ord f) L c0 (some (regs0 (args.map .v) 0 .e, emptyH))))))).map fun p => match opA p.1 gop with
        | .f (.func g') [.p k' 0, .p _ _, .p _ _] => bif Nat.beq g' g then cellIs p.2 k' else none
        | _ => none) = some (some (ty, x)))
    (hres : ((ev1 P (callN P F orc L k) fn.ntmps (F.ord f) L c5 (ev1 P (callN P F orc L k) fn.ntmps (F.ord f) L c4 (ev1 P (callN P F orc L k) fn.ntmps (F.ord f) L c2 (ev1 P (callN P F orc L k) fn.ntmps (F.ord f) L c1
      (ev1 P (callN P F orc L k) fn.ntmps (F.ord f) L c0 (some (regs0 (args.map .v) 0 .e, emptyH))))))).map fun p => match evC P (callN P F orc L k) fn.ntmps (F.ord f) L cr p.1 p.2 with
        | some (.ret, r, h) => (match evRes P r h fn.results.toList with | some us => (resOf us).val | none => none)
        | _ => none) = some (some v)) :
    ∀ w, Calls P f ⟨args⟩ w fun e w' => e = .returned v ∧ Below w.heap.size w w' := by
  intro w
  obtain ⟨g1, g2, g3⟩ := hF.ok f fn hf
  have hok := g3 _ hb
  simp only [okC, Bool.and_eq_true] at hok
  obtain ⟨o0, o1, o2, o4, ⟨o5, _⟩, or⟩ := hok
  have hc := callN_ok (L := L) hF ho k
  refine (callsIn_wide (n := 5)).1 (callsIn_of_wp_marks g1 hb trivial ?_ rfl)
  refine wpIn_wide.2 ?_
  have hle := Nat.le_of_ble_eq_true hn
  have hlm : (args.map AV.v).length ≤ fn.ntmps := by simpa using hle
  have hargs : embL (fun _ => (0, 0)) (args.map .v) = args := by
    rw [embL_map, List.map_map]
    conv => rhs; rw [← List.map_id args]
    exact List.map_congr_left fun x _ => by simp [AV.emb]
  have hact := regs0_act hlm (fun _ => (0, 0))
  rw [hargs] at hact
  rw [← hact]
  have emp : ∀ k x, emptyH.get k = some x → False := fun k x hx => by
    have h1 : (T.e : T Blk).get k = some x := hx
    rw [T.get_e] at h1; cases h1
  have hR0 : RH (fun _ => (0, 0)) emptyH w := ⟨fun k x hx => (emp k x hx).elim, fun k x hx => (emp k x hx).elim, fun k x hx => (emp k x hx).elim, fun k x hx => (emp k x hx).elim, fun k x _ _ hx => (emp k x hx).elim⟩
  have hlt0 : ltL emptyH.nx (args.map .v) := ltL_iff.2 fun x hx => by obtain ⟨y, _, rfl⟩ := List.mem_map.1 hx; simp [AV.lt]
  -- the evaluation
  generalize hcall : callN P F orc L k = call at hpre hres hc
  cases h5e : ev1 P call fn.ntmps (F.ord f) L c5 (ev1 P call fn.ntmps (F.ord f) L c4 (ev1 P call fn.ntmps (F.ord f) L c2 (ev1 P call fn.ntmps (F.ord f) L c1 (ev1 P call fn.ntmps (F.ord f) L c0 (some (regs0 (args.map .v) 0 .e, emptyH)))))) with
  | none => rw [h5e] at hpre; cases hpre
  | some p =>
  obtain ⟨r5, h5⟩ := p
  rw [h5e] at hpre hres
  simp only [Option.map_some, Option.some.injEq] at hpre hres
  obtain ⟨r4, h4, e4, x5⟩ := ev1_some h5e
  obtain ⟨r2, h2, e2, x4⟩ := ev1_some e4
  obtain ⟨r1, h1, e1, x2⟩ := ev1_some e2
  obtain ⟨r0, h0, e0, x1⟩ := ev1_some e1
  obtain ⟨rs, hs, es, x0⟩ := ev1_some e0
  simp only [Option.some.injEq, Prod.mk.injEq] at es
  obtain ⟨rfl, rfl⟩ := es
  let R : Ending → World → Prop := fun e w' => e = .returned v ∧ Below w.heap.size w w'
  let Q' : Exit → Act → World → Prop := fun e a w' => match e with
    | .ret => bodyPostM Fence.wide 5 P fn R .ret a w'
    | .normal => bodyPostM Fence.wide 5 P fn R .normal a w'
    | _ => False
  have hQ' : PQp Q' := fun c a d v w q => q
  refine wp_mono (Q := Q') ?_ (fun e a w' q => by cases e <;> first | exact q | exact q.elim)
  refine wp_seq ((evC_spec hF.mix hc c0 o0 _ _ _ _ _ x0).2 _ w _ (fun c a d v w q => q) hR0 (regs0_rw hlm hlt0) fun E1 w1 f1 b1 w1r => ?_)
  refine wp_seq ((evC_spec hF.mix hc c1 o1 _ _ _ _ _ x1).2 _ w1 _ (fun c a d v w q => q) b1 w1r fun E2 w2 f2 b2 w2r => ?_)
  refine wp_seq ((evC_spec hF.mix hc c2 o2 _ _ _ _ _ x2).2 _ w2 _ (fun c a d v w q => q) b2 w2r fun E3 w3 f3 b3 w3r => ?_)
  refine wp_seq ((evC_spec hF.mix hc c4 o4 _ _ _ _ _ x4).2 _ w3 _ (fun c a d v w q => q) b3 w3r fun E4 w4 f4 b4 w4r => ?_)
  refine wp_seq (wp_seq ((evC_spec hF.mix hc c5 o5 _ _ _ _ _ x5).2 _ w4 _ (fun c a d v w q => q) b4 w4r fun E5 w5 f5 b5 w5r => ?_))
  have fw := (((f1.trans f2).trans f3).trans f4).trans f5
  refine wp_block ?_
  -- the iterator's value
  have hgv : ∃ kb a' oa b' ob, opA r5 gop = .f (.func g) [.p kb 0, .p a' oa, .p b' ob] ∧ cellIs h5 kb = some (ty, x) := by
    split at hpre
    · next g' k' a' oa b' ob hq =>
      cases hbb : Nat.beq g' g with
      | false => rw [hbb] at hpre; cases hpre
      | true =>
        rw [hbb] at hpre
        have e1 := Nat.eq_of_beq_eq_true hbb
        subst e1
        exact ⟨k', a', oa, b', ob, hq, hpre⟩
    · cases hpre
  obtain ⟨kb, ka, oa, kc, oc, hgop, hcell⟩ := hgv
  have hkb : h5.get kb = some (.c ty [.v x]) := by
    unfold cellIs at hcell
    split at hcell
    · next ty' x' hq =>
      simp only [Option.some.injEq, Prod.mk.injEq] at hcell
      obtain ⟨rfl, rfl⟩ := hcell
      exact hq
    · cases hcell
  have hcb := b5.holds kb _ hkb
  simp only [Blk.holds, embL, AV.emb] at hcb
  have hgev : (A [] fn.ntmps E5 r5).eval gop = .func (.func g) #[] #[.pointer (some ⟨(E5 kb).1, 0, none⟩), .pointer (some ⟨(E5 ka).1, oa, none⟩), .pointer (some ⟨(E5 kc).1, oc, none⟩)] := by
    have := A_evalG (ds := []) (ρ := rho E5 r5) (E := E5) w5r.out gop (fun _ _ => rfl)
    rw [hgop] at this
    simp only [AV.emb, embL] at this
    exact this
  have hcr : ∃ r6 h6 us, evC P call fn.ntmps (F.ord f) L cr r5 h5 = some (.ret, r6, h6) ∧ evRes P r6 h6 fn.results.toList = some us ∧ (resOf us).val = some v := by
    split at hres
    · next r6 h6 hq =>
      split at hres
      · next us hu => exact ⟨r6, h6, us, hq, hu, hres⟩
      · cases hres
    · cases hres
  obtain ⟨r6, h6, us, x6, hus, hval⟩ := hcr
  have hlive5 : ∀ k x, h5.get k = some x → (E5 k).1 < w5.heap.size := fun k x hx => b5.sz k x hx
  refine (wpIn_wide (n := 5)).1 (wpIn_rangeFunc_ownF (F := Fence.wide) (n := 5) (α := Empty) rfl (by decide) hgev trivial hgc (encs := fun x => x.elim) (Kp := fun _ _ => True) (S := fun _ => True) (Sp := fun _ => False) (N := 0) (w0 := w5) ?_
    (fun _ _ => trivial) (fun _ _ _ _ _ _ _ _ => trivial) (Below.refl _ _) (fun x => x.elim) (fun _ W => Below w5.heap.size w5 W) (fun _ _ _ => False) (ownFrom_below (Nat.le_refl _) (Nat.le_refl _)) (fun _ _ _ _ _ h _ _ => h.elim) (Below.refl _ _) (fun x => x.elim)
    (fun _ x => x.elim) (fun _ _ x => x.elim) (fun D xs W hD _ hI hK => ?_) (fun _ _ _ _ _ h => h.elim))
  · -- the iterator
    intro l J Jx W hW hJ hJx hY hJ0
    have hbW : W.heap[(E5 kb).1]? = some (.cells ⟨[x]⟩ ty (0, 0)) := by rw [hW.block _ (hlive5 kb _ hkb)]; exact hcb
    refine callsIn_wide.2 ((iter_none (L := L) (k := k) hF ho hx hit hbW l _ _).mono ?_)
    rintro e W' ⟨hv, hg⟩
    exact ⟨hv, .inl ⟨[], trivial, hJ [] W W' none hJ0 hg (fun r h => by cases h)⟩⟩
  · -- behind the loop
    have bW : RH E5 h5 W := b5.other hI.size (fun q hq => hI.block q hq)
    show (cr.wp P Q') (A [{ target := .collected D, args := #[] }] fn.ntmps E5 r5) W
    refine (evC_spec hF.mix hc cr or _ _ _ _ _ x6).2 E5 W Q' hQ' bW w5r fun E6 w6 f6 b6 w6r => ?_
    have hDW : D < W.heap.size := (Array.getElem?_eq_some_iff.1 hK).1
    have hK6 : w6.heap[D]? = some (.deferred (some [])) := by
      rw [f6.frame D hDW fun k x hx he => by have := hlive5 k x hx; omega]; exact hK
    have hlive6 : ∀ k x, h6.get k = some x → (E6 k).1 ≠ D := fun k x hx he => by
      rcases f6.foot k x hx with ⟨k0, x0, q1, q2⟩ | q1
      · have := hlive5 k0 x0 q1; omega
      · omega
    have b7 : RH E6 h6 (w6.putObj D (.deferred none)) := ⟨b6.key, b6.lt, fun k x hx => by simpa [World.putObj] using b6.sz k x hx, fun k x hx => Blk.holds_frame (World.putObj_heap_other (hlive6 k x hx)) (b6.holds k x hx), b6.inj⟩
    obtain ⟨q1, q2⟩ := results_run (ds := [{ target := .collected D, args := #[] }]) b7 w6r hus
    show LeavesInM Fence.wide 5 P fn _ R [{ target := .collected D, args := #[] }] .returning w6
    refine ⟨by simp, .inl ⟨D, _, rfl, run_takeDeferred hK6, ?_⟩⟩
    refine ⟨_, q2, by rw [AV.val_emb E6 _ _ hval], ?_⟩
    have hs5 : w.heap.size ≤ w5.heap.size := fw.size
    refine ⟨f6.os.trans (hI.os.trans fw.os), f6.tape.trans (hI.tape.trans fw.tape), f6.output.trans (hI.output.trans fw.output), ?_, fun q hq => ?_⟩
    · have := f6.size; have := hI.size; simp only [World.putObj, Array.size_setIfInBounds]; omega
    · rw [World.putObj_heap_other (by omega), f6.frame q (by have := hI.size; omega) (fun j z hz he => ?_), hI.block q (by omega), fw.frame q hq (fun j z hz => (emp j z hz).elim)]
      rcases fw.foot j z hz with ⟨k0, x0, q3, _⟩ | q3
      · exact (emp k0 x0 q3).elim
      · omega
end
end Go.RE
namespace Go.RE
open Go Go.RowKit Go.Eng
/-- 'share.Split' of no weights -/
def splitO (f : Nat) : CallF := fun g args h => bif Nat.beq g f then (match args with
  | [.v (.int .u64 n), .v (.slice none 0 0)] => some (.t [.v (.slice none 0 0), .v (.int .u64 n), .v (.int .i64 0)], h)
  | _ => none) else none
theorem splitO_ok {P : Program} {f : Nat} (hk : ∀ n : Int, KnownC P f [.int .u64 n, .slice none 0 0] (.tuple ⟨[.slice none 0 0, .int .u64 n, .int .i64 0]⟩)) : CallOK P (splitO f) := fun g args h v h' hev => by
  unfold splitO at hev
  cases hb : Nat.beq g f with
  | false => rw [hb] at hev; cases hev
  | true =>
    rw [hb] at hev
    have := Nat.eq_of_beq_eq_true hb
    subst this
    simp only [cond_true] at hev
    split at hev
    · next n =>
      simp only [Option.some.injEq, Prod.mk.injEq] at hev
      obtain ⟨rfl, rfl⟩ := hev
      obtain ⟨k1, k2⟩ := hk n
      refine ⟨Ext.refl, k1, fun E w r0 _ => ?_⟩
      simp only [embL, AV.emb]
      refine (k2 w).mono ?_
      rintro e w' ⟨rfl, hbel⟩
      obtain ⟨q1, q2⟩ := r0.later hbel
      exact ⟨E, by simp, q2, q1, by simp [AV.lt, ltL]⟩
    · cases hev
end Go.RE
