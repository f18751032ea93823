/- Part of a proof: the tools that its last text leans on (RE8). -/
import Derived.Test.YtehhdfocecbcpaaGreatRE7
namespace Go.RE
open Go Go.RowKit Go.Eng

theorem pig : ∀ (D l : List Nat), D.Nodup → (∀ x ∈ D, x ∈ l) → D.length ≤ l.length
  | [], _, _, _ => by simp
  | x :: D, l, hn, hs => by
    rw [List.nodup_cons] at hn
    have h1 := pig D (l.erase x) hn.2 fun y hy => (List.mem_erase_of_ne (fun e => by subst e; exact hn.1 hy)).2 (hs y (List.mem_cons_of_mem _ hy))
    have hx : x ∈ l := hs x (by simp)
    rw [List.length_erase_of_mem hx] at h1
    have := List.length_pos_of_mem hx
    simp only [List.length_cons]; omega
section
variable {ds : List Deferred} {P : Program} {call : CallF} {n : Nat} {ops : List Oper} {C : List Nat} {E0 : Env} {h0 : AH} {Q : Exit → Act → World → Prop}
theorem rput_upd {E : Env} {r r' : R} {D : List El} {dst : Option Tmp} {v : AV} (hD : ∀ e ∈ D, dst ≠ some e.d) (hp : rput n r dst v = some r') : (actD ds n (updE D (rho E r))).put dst (v.emb E) = actD ds n (updE D (rho E r')) := by
  rcases rput_spec hp with ⟨rfl, rfl⟩ | ⟨d, rfl, _, rfl⟩
  · rfl
  · rw [rho_put, put_acts]; simp only; rw [updE_comm fun e he he' => hD e he (by rw [he'])]
theorem DI.apart {FM L : Nat} {r : R} {h : AH} {E : Env} {w : World} {D : List El} (hD : DI P ops.toArray n FM L r h E w D) (hF : fG FM (ops.map (oi ops.toArray)) 0 (ops.map (oi ops.toArray)) = true) {j : Nat} {oj : Oper} (hj : ops.toArray[j]? = some oj)
    (hL : L.testBit j = false) (hne : ∀ e ∈ D, e.i ≠ j) (hp : ∀ e ∈ D, (oi ops.toArray oj).p.testBit e.i = false) : ∀ e ∈ D, ∀ oe, ops.toArray[e.i]? = some oe → oe.apart ops.toArray oj = true := fun e he oe hoe => by
  obtain ⟨o, ho, _, _, _, hpe⟩ := hD.op e he
  rw [ho] at hoe; injection hoe with hoe; subst hoe
  refine fG_apart hF ho hj (hD.fm e he) (fun e' => hne e he e'.symm) (hp e he) ?_
  cases hb : (oi ops.toArray o).p.testBit j with
  | false => rfl
  | true => rw [hpe j hb] at hL; cases hL
theorem DI.dst {FM L : Nat} {r : R} {h : AH} {E : Env} {w : World} {D : List El} (hD : DI P ops.toArray n FM L r h E w D) {oj : Oper} (hap : ∀ e ∈ D, ∀ oe, ops.toArray[e.i]? = some oe → oe.apart ops.toArray oj = true) :
    (∀ e ∈ D, oj.dst ≠ some e.d) ∧ ∀ t ∈ oj.looksAt ops.toArray, updE D (rho E r) t = (rget r t).emb E := by
  refine ⟨fun e he => ?_, fun t ht => updE_get fun e he hd => ?_⟩
  · obtain ⟨o, ho, hd, _⟩ := hD.op e he
    exact (Oper.apart_spec (hap e he o ho)).2.1 _ hd
  · obtain ⟨o, ho, hd', _⟩ := hD.op e he
    subst hd
    exact (Oper.apart_spec (hap e he o ho)).1 _ hd' ht
theorem DI.step {FM L i : Nat} {r r1 : R} {h h1 : AH} {E E' : Env} {w w' : World} {D : List El} {oI : Oper} {v : AV} (hD : DI P ops.toArray n FM L r h E w D) (hap : ∀ e ∈ D, ∀ oe, ops.toArray[e.i]? = some oe → oe.apart ops.toArray oI = true)
    (hp : rput n r oI.dst v = some r1) (hfr : Fr E h w E' h1 w') (hne : ∀ e ∈ D, e.i ≠ i) : DI P ops.toArray n FM (Nat.lor L (Nat.pow 2 i)) r1 h1 E' w' D where
  op := fun e he => by
    obtain ⟨o, ho, a1, a2, a3, a4⟩ := hD.op e he
    exact ⟨o, ho, a1, a2, by rw [evN_apart (hap e he o ho) hp]; exact a3, fun k hk => by rw [lor_bit, a4 k hk]; rfl⟩
  dn := hD.dn
  fm := hD.fm
  un := fun e he => by rw [lor_bit, hD.un e he]; simpa using fun h => hne e he h.symm
  blk := fun e he => by
    have hb := hD.blk e he
    have hlt := (Array.getElem?_eq_some_iff.1 hb).1
    rw [hfr.frame e.b hlt (hD.fr e he), embL_congr hfr.env _ (hD.lt e he)]; exact hb
  fr := fun e he k x hx he' => by
    have hlt := (Array.getElem?_eq_some_iff.1 (hD.blk e he)).1
    rcases hfr.foot k x hx with ⟨k0, x0, h1, h2⟩ | h1
    · exact hD.fr e he k0 x0 h1 (h2.trans he')
    · omega
  lt := fun e he => ltL_mono hfr.nx _ (hD.lt e he)
  nd := hD.nd
theorem RH.other {E : Env} {h : AH} {w w' : World} (a : RH E h w) (hs : w.heap.size ≤ w'.heap.size) (hf : ∀ q, q < w.heap.size → w'.heap[q]? = w.heap[q]?) : RH E h w' :=
  ⟨a.key, a.lt, fun k x hx => Nat.lt_of_lt_of_le (a.sz k x hx) hs, fun k x hx => Blk.holds_frame (hf _ (a.sz k x hx)) (a.holds k x hx), a.inj⟩
theorem Fr.other {E : Env} {h : AH} {w w' : World} {Es : Env} {hs : AH} {ws : World} (a : Fr Es hs ws E h w) (ho : w'.os = w.os) (ht : w'.tape = w.tape) (hu : w'.output = w.output) (hz : w.heap.size ≤ w'.heap.size) (hf : ∀ q, q < w.heap.size → w'.heap[q]? = w.heap[q]?) : Fr Es hs ws E h w' :=
  ⟨ho.trans a.os, ht.trans a.tape, hu.trans a.output, Nat.le_trans a.size hz, a.env, a.nx, fun b hb hn => (hf b (Nat.lt_of_lt_of_le hb a.size)).trans (a.frame b hb hn), a.foot⟩
structure SimI (P : Program) (ops : List Oper) (n FM L : Nat) (listed : Array Bool) (D : List El) (r : R) (h0 : AH) (E0 : Env) (h : AH) (E : Env) (w : World) (Es : Env) (hs : AH) (ws : World) (l : List (Nat × Nat)) : Prop where
  hfm : ∀ i, i < ops.length → FM.testBit i = true → L.testBit i = false → (i, 1) ∈ l
  hR : RelM ops.toArray listed (Nat.lor L (dMask D))
  hD : DI P ops.toArray n FM L r h E w D
  hE : ∀ k, k < h0.nx → E k = E0 k
  hx : Ext h0 h
  r0 : RH E h w
  hr : RW n r h.nx
  fs : Fr Es hs ws E h w
  bs : ∀ e ∈ D, ws.heap.size ≤ e.b
  cl : Closed ops.toArray listed
theorem hoj_of {ops : Array Oper} {j : Nat} {o : Oper} (h : ops[j]? = some o) : ops[j]? = some o := h
theorem simD (hc : CallOK P call) (hns : Region.noSelect ops.toArray = true) (hQ : ∀ c a d v w, Q (.panic c) (Act.put a d v) w → Q (.panic c) a w)
    (a0 : ∀ k x, h0.get k = some x → k < h0.nx ∧ x.lt h0.nx) (hC : C = ancL (ops.map (oi ops.toArray)) []) {PF : List (Nat × Nat)} {FM : Nat} (hF : fG FM (ops.map (oi ops.toArray)) 0 (ops.map (oi ops.toArray)) = true) {re : R} {he : AH} {Es : Env} {hs : AH} {ws : World}
    (hK : ∀ E' w', Fr Es hs ws E' he w' → RH E' he w' → RW n re he.nx → Q .normal (actD ds n (rho E' re)) w') :
    ∀ (l : List (Nat × Nat)) (fuel : Nat) (L : Nat) (listed : Array Bool) (D : List El) (r : R) (h : AH) (E : Env) (w : World) (pr : List (Nat × Nat)),
      goF (ops.map (oi ops.toArray)) FM L l = true → evD P call n ops C h0 l r h pr = some (re, he, PF) → SimI P ops n FM L listed D r h0 E0 h E w Es hs ws l → l.length ≤ fuel + D.length →
      (∀ p ∈ pr, L.testBit p.1 = true) →
      wpAnyG P ops.toArray Q (SP E0 h0 PF) (keepB C) fuel listed (actD ds n (updE D (rho E r))) w := by
  intro l
  induction l with
  | nil =>
    intro fuel L listed D r h E w pr hg hev hI hlen hph
    have hDn : D = [] := by
      cases D with
      | nil => rfl
      | cons e D =>
        obtain ⟨o, ho, _⟩ := hI.hD.op e (by simp)
        have := hI.hfm e.i (by simpa using (Array.getElem?_eq_some_iff.1 ho).1) (hI.hD.fm e (by simp)) (hI.hD.un e (by simp))
        cases this
    subst hDn
    simp only [evD, Option.some.injEq, Prod.mk.injEq] at hev
    obtain ⟨rfl, rfl, rfl⟩ := hev
    have hready : Region.ready .any ops.toArray listed = [] := by
      apply List.eq_nil_iff_forall_not_mem.2
      intro i hi
      obtain ⟨_, o, ho, _⟩ := mem_ready.1 hi
      have := endGo_spec _ _ hg i (oi ops.toArray o) (infos_get' ho)
      rw [Nat.zero_add, Bool.or_eq_true] at this
      have e0 : Nat.lor L (dMask []) = L := by show L ||| 0 = L; simp
      have hR := hI.hR
      rw [e0] at hR
      exact not_rdy_of hR ho (this.imp id (by simp)) hi
    have hq := hK E w hI.fs hI.r0 hI.hr
    cases fuel with
    | zero => exact ⟨hready, hq⟩
    | succ f => exact ⟨fun _ => hq, fun i hi => by rw [hready] at hi; cases hi⟩
  | cons p l ihl =>
    obtain ⟨i, kd⟩ := p
    -- the next item came early
    have adv : ∀ (fuel : Nat) (L : Nat) (listed : Array Bool) (D : List El) (r : R) (h : AH) (E : Env) (w : World) (pr : List (Nat × Nat)), goF (ops.map (oi ops.toArray)) FM L ((i, kd) :: l) = true → evD P call n ops C h0 ((i, kd) :: l) r h pr = some (re, he, PF) →
        SimI P ops n FM L listed D r h0 E0 h E w Es hs ws ((i, kd) :: l) → ((i, kd) :: l).length ≤ fuel + D.length → (∀ p ∈ pr, L.testBit p.1 = true) → (∃ e ∈ D, e.i = i) → wpAnyG P ops.toArray Q (SP E0 h0 PF) (keepB C) fuel listed (actD ds n (updE D (rho E r))) w := by
      rintro fuel L listed D r h E w pr hg hev hI hlen hph ⟨e, heD, rfl⟩
      obtain ⟨x, hx, hL, hpi, hg', hk⟩ := goF_cons hg
      obtain ⟨oI, hoi, hev'⟩ := evD_cons hev
      obtain ⟨o, ho, hd, hgd, hn, hpe⟩ := hI.hD.op e heD
      have e1 : oI = o := by
        have : ops[e.i]? = some o := by simpa using ho
        rw [hoi] at this; injection this
      subst e1
      have hkd : kd = 1 := by
        have := hI.hfm e.i (by simpa using (Array.getElem?_eq_some_iff.1 ho).1) (hI.hD.fm e heD) hL
        rcases List.mem_cons.1 this with e' | e'
        · injection e' with _ e'; exact e'.symm
        · have := goF_un _ _ hg' e.i 1 e'
          rw [lor_bit] at this; simp at this
      have hph' : ∀ p ∈ pr, (Nat.lor L (Nat.pow 2 e.i)).testBit p.1 = true := fun p hp => by rw [lor_bit, hph p hp]; rfl
      rcases hev' with ⟨_, d, ty, cs, rr, g1, g2, g3, g4, hev1⟩ | ⟨h1, _⟩ | ⟨h1, _⟩
      · rw [hd] at g2; injection g2 with g2; subst g2
        rw [hn] at g4
        simp only [Option.some.injEq, Prod.mk.injEq] at g4
        obtain ⟨rfl, rfl, rfl⟩ := g4
        obtain ⟨D1, D2, hDD⟩ := List.append_of_mem heD
        have hnd := hI.hD.nd
        rw [hDD, List.pairwise_append] at hnd
        obtain ⟨nd1, nd2, nd3⟩ := hnd
        rw [List.pairwise_cons] at nd2
        have hother : ∀ e' ∈ D1 ++ D2, e'.i ≠ e.i ∧ e'.b ≠ e.b := fun e' he' => by
          rcases List.mem_append.1 he' with h1 | h1
          · exact nd3 e' h1 e (by simp)
          · have := nd2.1 e' h1; exact ⟨fun q => this.1 q.symm, fun q => this.2 q.symm⟩
        have hsub : ∀ e' ∈ D1 ++ D2, e' ∈ D := fun e' he' => by
          rw [hDD]; rcases List.mem_append.1 he' with h1 | h1
          · exact List.mem_append_left _ h1
          · exact List.mem_append_right _ (List.mem_cons_of_mem _ h1)
        have hap : ∀ e' ∈ D1 ++ D2, ∀ oe, ops.toArray[e'.i]? = some oe → oe.apart ops.toArray oI = true := fun e' he' oe hoe => by
          refine fG_apart hF hoe ho (hI.hD.fm e' (hsub e' he')) (fun q => (hother e' he').1 q.symm) ?_ ?_
          · cases hb : (oi ops.toArray oI).p.testBit e'.i with
            | false => rfl
            | true => have := fG_noF hF ho (hI.hD.fm e heD) hb; rw [hI.hD.fm e' (hsub e' he')] at this; cases this
          · obtain ⟨o', ho', _, _, _, hpe'⟩ := hI.hD.op e' (hsub e' he')
            rw [ho'] at hoe; injection hoe with hoe; subst hoe
            cases hb : (oi ops.toArray o').p.testBit e.i with
            | false => rfl
            | true => rw [hpe' _ hb] at hL; cases hL
        have hput : rput n r oI.dst (resA e.rr h.nx) = some (T.set 12 r e.d (some (resA e.rr h.nx))) := by rw [hd]; exact rput_some g3
        have hblt := (Array.getElem?_eq_some_iff.1 (hI.hD.blk e heD)).1
        have hrho : updE D (rho E r) = updE (D1 ++ D2) (rho (eset E h.nx (e.b, 0)) (T.set 12 r e.d (some (resA e.rr h.nx)))) := by
          have hdne : ∀ e' ∈ D1 ++ D2, e'.d ≠ e.d := fun e' he' hq => by
            obtain ⟨o', ho', hd', _⟩ := hI.hD.op e' (hsub e' he')
            exact (Oper.apart_spec (hap e' he' o' ho')).2.1 _ hd' (by rw [hd, hq])
          rw [hDD, updE_pull (fun e' he' => hdne e' (List.mem_append_left _ he')) (fun e' he' => hdne e' (List.mem_append_right _ he')), rho_put, resA_VA, rho_congr eset_lt hI.hr]
        rw [hrho]
        have hmask : ∀ j, (Nat.lor L (dMask D)).testBit j = (Nat.lor (Nat.lor L (Nat.pow 2 e.i)) (dMask (D1 ++ D2))).testBit j := fun j => by
          rw [lor_bit2, lor_bit2, lor_bit]
          rw [Bool.eq_iff_iff]
          simp only [Bool.or_eq_true, dMask_bit, decide_eq_true_eq]
          constructor
          · rintro (h1 | ⟨e', he', rfl⟩)
            · exact .inl (.inl h1)
            · rw [hDD] at he'
              rcases List.mem_append.1 he' with h1 | h1
              · exact .inr ⟨e', List.mem_append_left _ h1, rfl⟩
              · rcases List.mem_cons.1 h1 with rfl | h1
                · exact .inl (.inr rfl)
                · exact .inr ⟨e', List.mem_append_right _ h1, rfl⟩
          · rintro ((h1 | h1) | ⟨e', he', rfl⟩)
            · exact .inl h1
            · exact .inr ⟨e, heD, h1⟩
            · exact .inr ⟨e', hsub e' he', rfl⟩
        have hR' : RelM ops.toArray listed (Nat.lor (Nat.lor L (Nat.pow 2 e.i)) (dMask (D1 ++ D2))) := by
          obtain ⟨q1, q2, q3⟩ := hI.hR
          exact ⟨q1, fun j hj => by rw [q2 j hj, hmask], fun j hj => q3 j (by rw [hmask]; exact hj)⟩
        have hcs := hI.hD.lt e heD
        refine ihl fuel _ listed (D1 ++ D2) _ _ _ w pr hg' hev1 ⟨?_, hR', ?_, ?_, hI.hx.trans Ext.new, ?_, ?_, ?_, fun e' he' => hI.bs e' (hsub e' he'), hI.cl⟩ ?_ hph'
        · intro j hj hjF hjL
          rw [lor_bit, Bool.or_eq_false_iff] at hjL
          have := hI.hfm j hj hjF hjL.1
          rcases List.mem_cons.1 this with e' | e'
          · injection e' with e'; subst e'; simp at hjL
          · exact e'
        · refine ⟨fun e' he' => ?_, fun e' he' => hI.hD.dn e' (hsub e' he'), fun e' he' => hI.hD.fm e' (hsub e' he'), fun e' he' => ?_, fun e' he' => ?_, fun e' he' k x hx' => ?_, fun e' he' => ltL_mono (Nat.le_succ _) _ (hI.hD.lt e' (hsub e' he')), ?_⟩
          · obtain ⟨o', ho', b1, b2, b3, b4⟩ := hI.hD.op e' (hsub e' he')
            exact ⟨o', ho', b1, b2, by rw [evN_apart (hap e' he' o' ho') hput]; exact b3, fun k hk => by rw [lor_bit, b4 k hk]; rfl⟩
          · rw [lor_bit, hI.hD.un e' (hsub e' he')]; simpa using fun q => (hother e' he').1 q.symm
          · rw [embL_congr eset_lt _ (hI.hD.lt e' (hsub e' he'))]; exact hI.hD.blk e' (hsub e' he')
          · rw [AH.get_new] at hx'
            by_cases hkn : k = h.nx
            · subst hkn; simp only [eset, if_true]; exact fun q => (hother e' he').2 q.symm
            · rw [if_neg hkn] at hx'; simp only [eset, hkn, if_false]; exact hI.hD.fr e' (hsub e' he') k x hx'
          · exact List.pairwise_append.2 ⟨nd1, nd2.2, fun a ha b hb => nd3 a ha b (List.mem_cons_of_mem _ hb)⟩
        · intro k hk; rw [eset_lt k (Nat.lt_of_lt_of_le hk hI.hx.nx)]; exact hI.hE k hk
        · refine hI.r0.newBlk hcs (fun k x hx' => hI.hD.fr e heD k x hx') (Nat.le_refl _) hblt (fun _ _ _ => rfl) ?_
          simp only [Blk.holds]
          rw [embL_congr eset_lt _ hcs]
          simp only [eset, if_true]
          exact hI.hD.blk e heD
        · exact (hI.hr.mono (Nat.le_succ _)).put g3 (resA_lt (Nat.lt_succ_self _))
        · refine ⟨hI.fs.os, hI.fs.tape, hI.fs.output, hI.fs.size, fun k hk => (eset_lt k (Nat.lt_of_lt_of_le hk hI.fs.nx)).trans (hI.fs.env k hk), Nat.le_trans hI.fs.nx (Nat.le_succ _), hI.fs.frame, fun k x hx' => ?_⟩
          rw [AH.get_new] at hx'
          by_cases hkn : k = h.nx
          · subst hkn; right; simp only [eset, if_true]; exact hI.bs e heD
          · rw [if_neg hkn] at hx'; simp only [eset, hkn, if_false]; exact hI.fs.foot k x hx'
        · rw [hDD] at hlen; simp only [List.length_cons, List.length_append] at hlen ⊢; omega
      · omega
      · exact absurd hkd h1
    intro fuel
    induction fuel with
    | zero =>
      intro L listed D r h E w pr hg hev hI hlen hph
      by_cases hin : ∃ e ∈ D, e.i = i
      · exact adv 0 L listed D r h E w pr hg hev hI hlen hph hin
      · exfalso
        have hnd : (D.map El.i).Nodup := by
          rw [List.Nodup, List.pairwise_map]
          exact hI.hD.nd.imp fun h => h.1
        have := pig (D.map El.i) (l.map (·.1)) hnd fun x hx => by
          obtain ⟨e, heD, rfl⟩ := List.mem_map.1 hx
          obtain ⟨o, ho, _⟩ := hI.hD.op e heD
          have := hI.hfm e.i (by simpa using (Array.getElem?_eq_some_iff.1 ho).1) (hI.hD.fm e heD) (hI.hD.un e heD)
          rcases List.mem_cons.1 this with e' | e'
          · injection e' with e'; exact absurd ⟨e, heD, e'⟩ hin
          · exact List.mem_map.2 ⟨_, e', rfl⟩
        simp only [List.length_map, List.length_cons] at this hlen
        omega
    | succ fuel ihf =>
      intro L listed D r h E w pr hg hev hI hlen hph
      by_cases hin : ∃ e ∈ D, e.i = i
      · exact adv (fuel + 1) L listed D r h E w pr hg hev hI hlen hph hin
      have hph' : ∀ p ∈ pr, (Nat.lor L (Nat.pow 2 i)).testBit p.1 = true := fun p hp => by rw [lor_bit, hph p hp]; rfl
      have hxe' := evD_ext hc _ _ _ _ hev
      have hni : ∀ e ∈ D, e.i ≠ i := fun e he q => hin ⟨e, he, q⟩
      obtain ⟨x, hx, hL, hpi, hg', hk⟩ := goF_cons hg
      obtain ⟨oI, hoi, hev'⟩ := evD_cons hev
      have hoI : ops.toArray[i]? = some oI := by simpa using hoi
      have hxe : x = oi ops.toArray oI := by
        have := infos_get' hoI
        rw [hx] at this; injection this
      have hil : i < ops.toArray.size := (Array.getElem?_eq_some_iff.1 hoI).1
      have hLD : (Nat.lor L (dMask D)).testBit i = false := by
        rw [lor_bit2, hL]
        cases hb : (dMask D).testBit i with
        | false => rfl
        | true => exact absurd (dMask_bit.1 hb) hin
      have hpi' : Nat.beq (Nat.land (oi ops.toArray oI).p (Nat.lor L (dMask D))) (oi ops.toArray oI).p = true := by
        have : Nat.land (oi ops.toArray oI).p (Nat.lor L (dMask D)) = (oi ops.toArray oI).p := by
          apply Nat.eq_of_testBit_eq
          intro k
          show ((oi ops.toArray oI).p &&& (L ||| dMask D)).testBit k = _
          rw [Nat.testBit_and, Nat.testBit_or]
          cases hb : (oi ops.toArray oI).p.testBit k with
          | false => rfl
          | true => rw [← hxe] at hb; rw [sub_of hpi hb]; rfl
        rw [this]; simp
      have hri : i ∈ Region.ready .any ops.toArray listed := rdy_of hI.hR hoI hLD hpi'
      have hpL : ∀ k, (oi ops.toArray oI).p.testBit k = true → L.testBit k = true := fun k hk => by rw [← hxe] at hk; exact sub_of hpi hk
      have hapI : ∀ e ∈ D, ∀ oe, ops.toArray[e.i]? = some oe → oe.apart ops.toArray oI = true := hI.hD.apart hF hoI hL hni fun e he => by
        cases hb : (oi ops.toArray oI).p.testBit e.i with
        | false => rfl
        | true => have := hpL _ hb; rw [hI.hD.un e he] at this; cases this
      obtain ⟨hdst, hlook⟩ := hI.hD.dst hapI
      -- a row that comes early
      have pick : ∀ j ∈ Region.ready .any ops.toArray listed, FM.testBit j = true → wpOp P ops.toArray Q j (fun a' w' => (∀ q, keepB C q j = true → SP E0 h0 PF q w → SP E0 h0 PF q w') ∧ wpAnyG P ops.toArray Q (SP E0 h0 PF) (keepB C) fuel (listed.setIfInBounds j true) a' w') (actD ds n (updE D (rho E r))) w := by
        intro j hj hjF
        obtain ⟨hjun, oj, hoj, hall⟩ := mem_ready.1 hj
        have hjl : j < ops.toArray.size := (Array.getElem?_eq_some_iff.1 hoj).1
        have hjLD : (Nat.lor L (dMask D)).testBit j = false := by rw [← hI.hR.getD hjl true]; exact hjun
        rw [lor_bit2, Bool.or_eq_false_iff] at hjLD
        have hjD : ∀ e ∈ D, e.i ≠ j := fun e he q => by
          have := dMask_bit.2 ⟨e, he, q⟩
          rw [hjLD.2] at this; cases this
        have hpj : ∀ k, (oi ops.toArray oj).p.testBit k = true → L.testBit k = true := fun k hk => by
          obtain ⟨e, he', hb, rfl⟩ := (pmask_bit _ _).1 hk
          have h1 := hall e (by simpa using he') hb
          have hlt : e.on < ops.toArray.size := by
            apply Classical.byContradiction; intro hn
            have : ¬ e.on < listed.size := by rw [hI.hR.1]; exact hn
            simp [this] at h1
          rw [hI.hR.getD hlt, lor_bit2, Bool.or_eq_true] at h1
          rcases h1 with h1 | h1
          · exact h1
          · obtain ⟨e2, he2, q⟩ := dMask_bit.1 h1
            have := fG_noF hF hoj hjF hk
            rw [← q, hI.hD.fm e2 he2] at this; cases this
        have hjm : (j, 1) ∈ (i, kd) :: l := hI.hfm j (by simpa using hjl) hjF hjLD.1
        obtain ⟨d, X, hd, hdn, hgd, hX⟩ := evD_F hc hF hoj hjF _ L r h pr hg hev hpj hjm
        obtain ⟨ty, cs, rr⟩ := X
        have hapj : ∀ e ∈ D, ∀ oe, ops.toArray[e.i]? = some oe → oe.apart ops.toArray oj = true := hI.hD.apart hF hoj hjLD.1 hjD fun e he => by
          cases hb : (oi ops.toArray oj).p.testBit e.i with
          | false => rfl
          | true => have := hpj _ hb; rw [hI.hD.un e he] at this; cases this
        obtain ⟨hdstj, hlookj⟩ := hI.hD.dst hapj
        have hε : ∀ y ∈ oj.op.operands, (actD ds n (updE D (rho E r))).eval y = (opA r y).emb E := fun y hy => A_evalG hI.hr.out y fun t ht => hlookj t (by
          subst ht; exact List.mem_append_left _ (List.mem_filterMap.2 ⟨.tmp t, by simpa using hy, rfl⟩))
        obtain ⟨hlt, hrun⟩ := evN_spec (N := h.nx) (fun y _ => opA_lt hI.hr y) hε hX
        have hr1 := hrun w 0 0
        rw [resA_VA] at hr1
        have hal : ∀ q, q < w.heap.size → (w.alloc (.cells ⟨embL E cs⟩ ty)).heap[q]? = w.heap[q]? := fun q hq => Below.heap_alloc _ _ _ hq
        have hsz : (w.alloc (.cells ⟨embL E cs⟩ ty)).heap.size = w.heap.size + 1 := by show (w.heap.push _).size = _; simp
        have r1 := hI.r0.other (w' := w.alloc (.cells ⟨embL E cs⟩ ty)) (by omega) hal
        unfold wpOp
        simp only [hoj]
        have hw : Region.wanted oj (yielded ops.toArray (actD ds n (updE D (rho E r))).tmps) = true := by unfold Region.wanted; rw [hgd]
        rw [if_pos hw]
        refine .inl ?_
        unfold Oper.wp
        rw [hr1]
        refine ⟨fun q _ => SP_frame (by omega) hal, ?_⟩
        have hput : (actD ds n (updE D (rho E r))).put oj.dst (VA rr w.heap.size) = actD ds n (updE (⟨j, d, w.heap.size, ty, cs, rr⟩ :: D) (rho E r)) := by rw [put_acts, hd]; rfl
        rw [hput]
        refine ihf L _ _ r h E _ pr hg hev ⟨hI.hfm, ?_, ?_, hI.hE, hI.hx, r1, hI.hr, hI.fs.other rfl rfl rfl (by omega) hal, fun e he => ?_, hI.cl.set hj⟩ ?_ hph
        · have := hI.hR.set hjl
          rw [setMask] at this
          exact this
        · refine ⟨fun e he => ?_, fun e he => ?_, fun e he => ?_, fun e he => ?_, fun e he => ?_, fun e he => ?_, fun e he => ?_, List.pairwise_cons.2 ⟨fun e he => ⟨fun q => hjD e he q.symm, fun q => ?_⟩, hI.hD.nd⟩⟩
          · rcases List.mem_cons.1 he with rfl | he
            · exact ⟨oj, hoj, hd, hgd, hX, hpj⟩
            · exact hI.hD.op e he
          · rcases List.mem_cons.1 he with rfl | he
            · exact hdn
            · exact hI.hD.dn e he
          · rcases List.mem_cons.1 he with rfl | he
            · exact hjF
            · exact hI.hD.fm e he
          · rcases List.mem_cons.1 he with rfl | he
            · exact hjLD.1
            · exact hI.hD.un e he
          · rcases List.mem_cons.1 he with rfl | he
            · exact heap_alloc_new w _
            · have hb := hI.hD.blk e he
              rw [hal _ (Array.getElem?_eq_some_iff.1 hb).1]; exact hb
          · rcases List.mem_cons.1 he with rfl | he
            · exact fun k x hx' => Nat.ne_of_lt (hI.r0.sz k x hx')
            · exact hI.hD.fr e he
          · rcases List.mem_cons.1 he with rfl | he
            · exact hlt
            · exact hI.hD.lt e he
          · have := (Array.getElem?_eq_some_iff.1 (hI.hD.blk e he)).1
            simp only at q
            omega
        · rcases List.mem_cons.1 he with rfl | he
          · exact hI.fs.size
          · exact hI.bs e he
        · simp only [List.length_cons] at hlen ⊢; omega
      -- what is listed behind this item
      have hfm' : ∀ j, j < ops.length → FM.testBit j = true → (Nat.lor L (Nat.pow 2 i)).testBit j = false → (j, 1) ∈ l := fun j hj hjF hjL => by
        rw [lor_bit, Bool.or_eq_false_iff] at hjL
        have := hI.hfm j hj hjF hjL.1
        rcases List.mem_cons.1 this with e' | e'
        · injection e' with e'; subst e'; simp at hjL
        · exact e'
      have hR' : RelM ops.toArray (listed.setIfInBounds i true) (Nat.lor (Nat.lor L (Nat.pow 2 i)) (dMask D)) := by
        have := hI.hR.set hil
        rw [setMask'] at this
        exact this
      have hlen' : l.length ≤ fuel + D.length := by simp only [List.length_cons] at hlen; omega
      have notready : ∀ (M : Nat) (j : Nat), j ∈ Region.ready .any ops.toArray listed → FM.testBit j = false → allG M FM L i 0 (ops.map (oi ops.toArray)) = true → (∀ e ∈ D, M.testBit e.i = true) → j = i := fun M j hj hjF hall hM => by
        obtain ⟨hjun, oj, hoj, hallj⟩ := mem_ready.1 hj
        have hjl : j < ops.toArray.size := (Array.getElem?_eq_some_iff.1 hoj).1
        have hjLD : (Nat.lor L (dMask D)).testBit j = false := by rw [← hI.hR.getD hjl true]; exact hjun
        rw [lor_bit2, Bool.or_eq_false_iff] at hjLD
        have := allG_spec _ 0 hall j _ (infos_get' hoj)
        rw [Nat.zero_add] at this
        rcases this with h1 | h1 | h1 | ⟨q, h1, h2⟩
        · exact h1
        · rw [hjLD.1] at h1; cases h1
        · rw [hjF] at h1; cases h1
        · exfalso
          obtain ⟨e, he', hb, rfl⟩ := (pmask_bit _ _).1 h1
          have h3 := hallj e (by simpa using he') hb
          have hlt : e.on < ops.toArray.size := by
            apply Classical.byContradiction; intro hn
            have : ¬ e.on < listed.size := by rw [hI.hR.1]; exact hn
            simp [this] at h3
          rw [lor_bit2, Bool.or_eq_false_iff] at h2
          rw [hI.hR.getD hlt, lor_bit2, Bool.or_eq_true] at h3
          rcases h3 with h3 | h3
          · rw [h2.1] at h3; cases h3
          · obtain ⟨e2, he2, q⟩ := dMask_bit.1 h3
            rw [← q, hM e2 he2] at h2; cases h2.2
      have hε : ∀ y ∈ oI.op.operands, (actD ds n (updE D (rho E r))).eval y = (opA r y).emb E := fun y hy => A_evalG hI.hr.out y fun t ht => hlook t (by
            subst ht; exact List.mem_append_left _ (List.mem_filterMap.2 ⟨.tmp t, by simpa using hy, rfl⟩))
      have hfree : ∀ (fn : Nat → Bool), takeGo fn L i x 0 (ops.map (oi ops.toArray)) = true → ∀ j oj, ops.toArray[j]? = some oj → j ≠ i → listed.getD j true = false → (∀ e ∈ oj.after, Region.binds .any e = true → e.on ≠ i) → oI.apart ops.toArray oj = true := fun fn htake j oj hj hji hun hno => by
        have hjl : j < ops.toArray.size := (Array.getElem?_eq_some_iff.1 hj).1
        have hjLD : (Nat.lor L (dMask D)).testBit j = false := by rw [← hI.hR.getD hjl true]; exact hun
        rw [lor_bit2, Bool.or_eq_false_iff] at hjLD
        have hkk := (takeGo_spec _ _ htake j _ (infos_get' hj)).1
        rw [Nat.zero_add] at hkk
        have e1 : Nat.beq j i = false := by apply Bool.eq_false_iff.2; intro hb; exact hji (Nat.eq_of_beq_eq_true hb)
        have e3 : Nat.testBit (oi ops.toArray oj).p i = false := by
          apply Bool.eq_false_iff.2; intro hb
          obtain ⟨e, he', hb', rfl⟩ := (pmask_bit _ _).1 hb
          exact hno e (by simpa using he') hb' rfl
        rw [e1, hjLD.1, e3] at hkk
        simp only [Bool.false_or, Bool.and_eq_true] at hkk
        rw [hxe] at hkk
        exact apart_of hkk.1 hkk.2
      rcases hk with ⟨rfl, hiF, hall⟩ | ⟨rfl, hiF, hall⟩ | ⟨k1, k2, htake⟩
      · -- a new row, in its turn
        refine ⟨fun hnil => (by rw [hnil] at hri; cases hri), fun j hj => pick j hj ?_⟩
        cases hjF : FM.testBit j with
        | true => rfl
        | false =>
          have := notready _ j hj hjF hall fun e he => by
            have h1 := hI.hD.fm e he
            show (Nat.xor FM (Nat.pow 2 i)).testBit e.i = true
            rw [xor_bit, h1]
            simpa using fun q => hni e he q.symm
          rw [this, hiF] at hjF; cases hjF
      · -- alone
        rcases hev' with ⟨h1, _⟩ | ⟨_, r1, h1, hx1, hpo, hev1⟩ | ⟨_, h1, _⟩
        · omega
        · refine ⟨fun hnil => (by rw [hnil] at hri; cases hri), fun j hj => ?_⟩
          cases hjF : FM.testBit j with
          | true => exact pick j hj hjF
          | false =>
            have := notready _ j hj hjF hall hI.hD.fm
            subst this
            have hx' := hI.hx.trans (evX_ext hc hx1)
            have hpe := (evD_ext hc _ _ _ _ hev1).2.2
            have hwp := evX_spec (P := P) (Q := Q) hc (ρ := updE D (rho E r)) hI.r0 hI.hr hlook hx1 (K := fun a' w' => (∀ q, keepB C q j = true → SP E0 h0 PF q w → SP E0 h0 PF q w') ∧ wpAnyG P ops.toArray Q (SP E0 h0 PF) (keepB C) fuel (listed.setIfInBounds j true) a' w') (by
              intro E' w' v hfr hr' hv hput
              have hE' : ∀ k, k < h0.nx → E' k = E0 k := fun k hk => (hfr.env k (Nat.lt_of_lt_of_le hk hI.hx.nx)).trans (hI.hE k hk)
              refine ⟨fun q hq _ k x hk hg => SP_at hE' hx' a0 hr' ?_ x hg, ?_⟩
              · rcases hpe q k hk with hp | ⟨hx, q1, q2, q3⟩
                · exact protOk_spec hpo q k hp hq
                · exact okS_ext q1 (Nat.lt_of_lt_of_le q3 hx'.nx) hx'.ck q2
              have hD' := hI.hD.step hapI hput hfr hni
              have hrw : updE D (rho E r) = updE D (rho E' r) := by rw [rho_congr hfr.env hI.hr]
              rw [hrw, rput_upd hdst hput]
              exact ihl fuel _ _ D r1 h1 E' w' pr hg' hev1 ⟨hfm', hR', hD', hE', hx', hr', (hI.hr.mono hfr.nx).rput hv hput, hI.fs.trans hfr, fun e he => hI.bs e he, hI.cl.set hri⟩ hlen' hph')
            unfold wpOp
            simp only [hoj_of hoI]
            exact hwp
        · exact absurd rfl h1
      · -- it only yields
        rcases hev' with ⟨h1, _⟩ | ⟨h1, _⟩ | ⟨_, _, v, r1, hput, hgv⟩
        · exact absurd h1 k1
        · exact absurd h1 k2
        · have emp : ∀ w', RH E emptyH w' := fun w' => by
            have em : ∀ k x, emptyH.get k = some x → False := fun k x hx => by
              have h1 : (T.e : T Blk).get k = some x := hx
              rw [T.get_e] at h1; cases h1
            exact ⟨fun k x hx => (em k x hx).elim, fun k x hx => (em k x hx).elim, fun k x hx => (em k x hx).elim, fun k x hx => (em k x hx).elim, fun k x _ _ hx => (em k x hx).elim⟩
          have goon : ∀ pr1, evD P call n ops C h0 l r1 h pr1 = some (re, he, PF) → (∀ p ∈ pr1, (Nat.lor L (Nat.pow 2 i)).testBit p.1 = true) → v.lt h.nx → wpAnyG P ops.toArray Q (SP E0 h0 PF) (keepB C) fuel (listed.setIfInBounds i true) ((actD ds n (updE D (rho E r))).put oI.dst (v.emb E)) w := fun pr1 hev1 hp1 hvlt => by
            rw [rput_upd hdst hput]
            exact ihl fuel _ _ D r1 h E w pr1 hg' hev1 ⟨hfm', hR', hI.hD.step hapI hput Fr.refl hni, hI.hE, hI.hx, hI.r0, hI.hr.rput hvlt hput, hI.fs, hI.bs, hI.cl.set hri⟩ hlen' hp1
          have hnsq := Region.noSelect_spec hns
          rcases hgv with ⟨hev1, ⟨hgo, rfl⟩ | ⟨hgo, hv⟩⟩ | ⟨k, hev1, hgo, hv, hk0, hko⟩
          · refine wpAnyG_first (S' := fun _ => True) (v := (AV.v undef).emb E) hoI hnsq (fun c a w => hQ c a _ _ w) (.inl fun _ => trivial) fuel listed _ _ hI.cl (hfree _ htake) hri ?_ trivial (goon _ hev1 hph' (by simp [AV.lt]))
            exact .inr ⟨gOK_spec (E := E) hgo hlook, by simp [AV.emb]⟩
          · refine wpAnyG_first (S' := fun _ => True) (v := v.emb E) hoI hnsq (fun c a w => hQ c a _ _ w) (.inl fun _ => trivial) fuel listed _ _ hI.cl (hfree _ htake) hri ?_ trivial (goon _ hev1 hph' ?_)
            · exact .inl ⟨gOK_spec (E := E) hgo hlook, fun w' _ => (evP_spec (w := w') (N := h.nx) (emp w') (Nat.zero_le _) (fun y _ => opA_lt hI.hr y) hε hv).1⟩
            · exact (evP_spec (w := w) (N := h.nx) (emp w) (Nat.zero_le _) (fun y _ => opA_lt hI.hr y) hε hv).2
          · obtain ⟨_, hsub, hpe⟩ := evD_ext hc _ _ _ _ hev1
            have hmem := hsub (i, k) (by simp)
            have hcg : ∀ w', SP E0 h0 PF i w' → RH E (h.only k) w' := fun w' a => only_of a0 hI.hE hI.hx hk0 hko hI.r0 fun x hg => a k x hmem hg
            have hS : SP E0 h0 PF i w := fun k' x hk' hg => SP_at hI.hE hI.hx a0 hI.r0 (by
              rcases hpe i k' hk' with hp | ⟨hx, q1, q2, q3⟩
              · rcases List.mem_cons.1 hp with e | e
                · injection e with _ e2; subst e2; exact hko
                · have := hph _ e; rw [hL] at this; cases this
              · exact okS_ext q1 (Nat.lt_of_lt_of_le q3 hI.hx.nx) hI.hx.ck q2) x hg
            refine wpAnyG_first (S' := SP E0 h0 PF i) (v := v.emb E) hoI hnsq (fun c a w => hQ c a _ _ w) (.inr ⟨fun _ => Iff.rfl, fun j oj _ hf => keepB_anc (by rw [← hC]; exact hf)⟩) fuel listed _ _ hI.cl (hfree _ htake) hri ?_ hS (goon _ hev1 (fun p hp => ?_) ?_)
            · exact .inl ⟨gOK_spec (E := E) hgo hlook, fun w' hw' => (evP_spec (w := w') (N := h.nx) (hcg w' hw') (Nat.le_refl _) (fun y _ => opA_lt hI.hr y) hε hv).1⟩
            · rcases List.mem_cons.1 hp with rfl | hp
              · rw [lor_bit]; simp
              · exact hph' p hp
            · exact (evP_spec (w := w) (N := h.nx) (hcg w hS) (Nat.le_refl _) (fun y _ => opA_lt hI.hr y) hε hv).2
end
end Go.RE
