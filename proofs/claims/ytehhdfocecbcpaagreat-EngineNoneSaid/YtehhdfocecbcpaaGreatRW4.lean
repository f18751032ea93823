/- Part of a proof: the tools that its last text leans on (RW4). -/
import Derived.Test.YtehhdfocecbcpaaGreatRW3
import Derived.Test.YtehhdfocecbcpaaGreatRows
import Derived.WalkKit
import Derived.ProofKit
import Derived.OpenShut
import Derived.JoinedCond
namespace Go.Proofs.YtehhdfocecbcpaaGreat.engineNone
open Go.ChangeShapes Go.WideShapes Go.ChangeAt Go.RowKit
set_option maxRecDepth 100000

theorem own : ownKnob Tryz.prog.godebug = none := by kernel_rfl
theorem laidOut : laidOutB Tryz.prog = true := by kernel_rfl
theorem cells24 : Tryz.prog.cellsOf 24 = 4 := by kernel_rfl
theorem cells22 : Tryz.prog.cellsOf 22 = 1 := by kernel_rfl
theorem cells3 : Tryz.prog.cellsOf 3 = 1 := by kernel_rfl
/-- an act's shape -/
theorem shape {H : Type} {enc : TypeId × Value → H} {W : World} {base : Nat} {sp : Nat → Bool} {held : Bool} {v : Value} {d : DataW H} {p : List MemPlace} (hv : Value.okWide Tryz.prog W .any base 24 v) (h : DataW.Trod enc Tryz.prog W 0 sp held 24 v d p) :
    ∃ kd wh ix bs, v = .agg ⟨[.int .i64 kd, .int .i64 wh, .int .i64 ix, bs]⟩ ∧ (bs = .slice none 0 0 ∨ ∃ a n c, bs = .slice (some a) n c) := by
  obtain ⟨cs, rfl, hs⟩ := okWide_struct Tryz.underlying24 hv
  rw [cells24] at hs
  obtain ⟨fuel, hf⟩ := h
  obtain ⟨xs, n, _, _, _, hlen, hx⟩ := DataW.trod_struct Tryz.underlying24 hf
  obtain ⟨c0, c1, c2, c3, rfl⟩ : ∃ c0 c1 c2 c3, cs = ⟨[c0, c1, c2, c3]⟩ := by
    obtain ⟨l⟩ := cs
    match l, hs with
    | [c0, c1, c2, c3], _ => exact ⟨c0, c1, c2, c3, rfl⟩
  have get : ∀ i, i < 4 → ∃ x, xs[i]? = some x := fun i hi => ⟨xs[i]'(by simpa [hlen] using hi), by simp⟩
  obtain ⟨x0, e0⟩ := get 0 (by omega)
  obtain ⟨x1, e1⟩ := get 1 (by omega)
  obtain ⟨x2, e2⟩ := get 2 (by omega)
  obtain ⟨x3, e3⟩ := get 3 (by omega)
  have h0 := hx 0 _ rfl
  have h1 := hx 1 _ rfl
  have h2 := hx 2 _ rfl
  have h3 := hx 3 _ rfl
  rw [e0] at h0; rw [e1] at h1; rw [e2] at h2; rw [e3] at h3
  simp only [Value.cells] at h0 h1 h2 h3
  obtain ⟨kd, q0, _⟩ := DataW.trod_int Tryz.underlying3 h0
  obtain ⟨wh, q1, _⟩ := DataW.trod_int Tryz.underlying3 h1
  obtain ⟨ix, q2, _⟩ := DataW.trod_int Tryz.underlying3 h2
  injection q0 with q0; injection q1 with q1; injection q2 with q2
  subst q0 q1 q2
  refine ⟨kd, wh, ix, c3, rfl, ?_⟩
  rcases DataW.trod_slice Tryz.underlying22 h3 with ⟨q3, _⟩ | ⟨a, len, cap, _, _, _, _, q3, _⟩
  · injection q3 with q3; exact .inl q3
  · injection q3 with q3; exact .inr ⟨_, _, _, q3⟩

theorem contract (H : Type) (enc : TypeId × Value → H) (W : World) (base : Nat) (args : Array Value) (ds gs : List (DataW H)) (before : List MemPlace)
    (hval : ∀ (j : Nat) t v, Tryz.f3.params[j]? = some t → args[j]? = some v → Value.okWide Tryz.prog W .any base t v)
    (hW : DataW.Whole enc Tryz.prog Tryz.f3.params.toList Rows.engineNoneSpec.vars false W args.toList ds gs before) :
    Calls Tryz.prog 3 args W fun e W' => ∃ v, e = .returned v ∧ Rows.engineNoneSpec.post enc Tryz.prog Tryz.f3 false true false false W args v W' := by
  have hW' := hW
  obtain ⟨p, q, hA0, hV, rfl, hfz, hnd⟩ := hW
  have hA : DataW.TrodAll enc Tryz.prog W 0 (fun _ => true) true Tryz.f3.params.toList args.toList ds p := hA0
  rw [Tryz.params3] at hA hval
  obtain ⟨v0, d0, rfl, rfl, h0⟩ := trodAll_one hA
  obtain ⟨rfl, rfl⟩ := trodVars_none hV
  obtain ⟨kd, wh, ix, bs, hv, hbs⟩ := shape (hval 0 24 v0 rfl rfl) h0
  simp only [List.append_nil] at hW'
  have hlt : ∀ x ∈ p, x.block < W.heap.size := fun x hx => by simpa using hW'.lt x hx
  have run := (Go.RE.engineNone_known kd wh ix bs hbs).2 W
  rw [← hv] at run
  refine run.mono fun e W' ⟨he, hb⟩ => ?_
  subst he
  exact ⟨_, rfl, [d0], [], p, [], p, [], hW', trodAll_cons_mk (shut_bool Tryz.underlying4 _) trodAll_mk0, trodAll_mk1 (Below.trod laidOut (by kernel_rfl) (of_decide_eq_true (by kernel_rfl)) h0 hb hlt), rfl, hb.frame _, fun h => by cases h⟩

end Go.Proofs.YtehhdfocecbcpaaGreat.engineNone
