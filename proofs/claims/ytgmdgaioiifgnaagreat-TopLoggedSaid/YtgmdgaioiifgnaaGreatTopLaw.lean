/- THE ROW OF TopLogged: whatever the records and the cut, it answers true, and the input reads as it did. -/
import Derived.Test.YtgmdgaioiifgnaaGreatRows
import Derived.Test.YtgmdgaioiifgnaaGreatTop
import Derived.Test.YtgmdgaioiifgnaaGreatOpen
import Derived.WalkKit
import Derived.ProofKit
import Derived.OpenShut
import Derived.ShutString
import Derived.ChangeOld
import Derived.Below
import Derived.SizedLaws
namespace Go.Proofs.YtgmdgaioiifgnaaGreat.topLogged
open Go.ChangeShapes Go.WideShapes Go.ChangeAt Go.RowKit
open Go.ChangeMaps (open_string shut_string)
set_option linter.unusedVariables false
theorem own : ownKnob Tryz.prog.godebug = none := by kernel_rfl
theorem laidOut : laidOutB Tryz.prog = true := by kernel_rfl
set_option maxRecDepth 100000 in
theorem lifted (os : Os) (started : os.Started) (H : Type) (enc : TypeId × Value → H) :
    ReturnsInHanded {} Tryz.checked os 3 .any (Rows.topLoggedSpec.pre6 enc Tryz.prog Tryz.f3 Rows.topLoggedRow.domain false) (Rows.topLoggedSpec.post enc Tryz.prog Tryz.f3 false true false false) := by
  refine returnsInHanded_of_change_sized (C := Tryz.checked) own started (by kernel_rfl) Tryz.func3
    (ChangeSpec.witness6 (enc := enc) (C := Tryz.checked) false ⟨#[], #[.slice none 0 0, .int .i64 0], []⟩ 8 (by kernel_rfl) (by kernel_rfl) (by kernel_rfl) (by kernel_rfl)) ?_
  intro W base args ds gs before hval0 hW hcnd hsz0 _
  have hsz : (DataW.weightsEach Tryz.prog (Tryz.f3.params.toList ++ Rows.topLoggedSpec.plain.varTypes Tryz.prog) (ds ++ gs)).all (· ≤ reachBytes) = true := hsz0
  have hval : ∀ (j : Nat) t v, Tryz.f3.params[j]? = some t → args[j]? = some v → Value.okWide Tryz.prog W .any base t v := hval0
  have hW' := hW
  obtain ⟨p, q, hA0, hV, rfl, hfz, hnd⟩ := hW
  have hA : DataW.TrodAll enc Tryz.prog W 0 (fun _ => true) true Tryz.f3.params.toList args.toList ds p := hA0
  rw [Tryz.params3] at hA hval hsz
  obtain ⟨v0, vs0, d0, ds0, p0, q0, hargs, rfl, rfl, h0, r0⟩ := trodAll_cons hA
  obtain ⟨v1, vs1, d1, ds1, p1, q1, rfl, rfl, rfl, h1, r1⟩ := trodAll_cons r0
  obtain ⟨rfl, rfl, rfl⟩ := trodAll_nil r1
  obtain rfl : args = #[v0, v1] := by cases args; simp_all
  obtain ⟨rfl, rfl⟩ := trodVars_none hV
  obtain ⟨a0, len0, cap0, rfl⟩ := okWide_slice Tryz.underlying22 (hval 0 22 v0 rfl rfl)
  have k0 := h0
  have lt0 : ∀ x ∈ p0, x.block < W.heap.size := by obtain ⟨m, hm⟩ := k0; exact DataW.trod_lt m _ _ _ hm
  obtain ⟨l, hin, rfl⟩ : ∃ l : List Rc, TopIn W a0 l ∧ len0 = l.length := by
    obtain ⟨fuel, hf⟩ := h0
    obtain ⟨l, ⟨A, c, hcs, hlc, hC⟩, hp⟩ := opens_slice (p := fun x : Rc => (Lit.int .i64 x.kind).wf = true ∧ (∀ y ∈ x.refs, (Lit.int .i64 y.ref).wf = true ∧ ∀ l ∈ y.ls, l.n.size ≤ reachBytes ∧ l.v.size ≤ reachBytes) ∧ ∀ y ∈ x.pts, (Lit.int .i64 y.ref).wf = true ∧ (Lit.int .i64 y.time).wf = true ∧ (Lit.int .u64 y.bits).wf = true) zRc Tryz.underlying22 (by kernel_rfl) opens_rc fuel _ (d0, p0) hf (fun n hn => by
      have := List.all_eq_true.1 hsz n (DataW.weights_mem_each (j := 0) (t := 22) (d := d0) rfl rfl n hn)
      simpa using this)
    simp [Value.cells] at hcs
    obtain ⟨rfl, rfl, rfl⟩ := hcs
    have hr : reachBytes = 140737488351232 := rfl
    refine ⟨l, ⟨hC, fun r hr x hx y hy => ?_, fun r hr x hx => ?_⟩, rfl⟩
    · exact (((hp r hr).2.1 x hx).2 y hy)
    · have := bounds_u64 ((hp r hr).2.2 x hx).2.2
      omega
  obtain ⟨a1, rfl, rfl, rfl, w1⟩ := open_int Tryz.underlying3 (hval 1 3 v1 rfl rfl) h1
  have hc1 := bounds_i64 w1
  clear hA0 hval0 hsz0 hsz
  refine (top_calls a0 cap0 l a1 W hin (by omega) (by omega)).mono fun e W' ⟨he, bel⟩ => ?_
  subst he
  exact ⟨_, rfl, _, _, _, [], _, [], hW', trodAll_mk1 (shut_bool Tryz.underlying4 _), (trodAll_cons_mk (Below.trod laidOut (by kernel_rfl) (of_decide_eq_true (by kernel_rfl)) k0 bel lt0) (trodAll_cons_mk (shut_int Tryz.underlying3 w1) trodAll_mk0)), rfl, bel.frame _, fun h => by cases h⟩
theorem over : Rows.topLoggedRow.holds Tryz.pinned (OpenSpec.ofChange Rows.topLoggedSpec) :=
  OpenClaim.holds_of_wide 3 Tryz.f3 rfl rfl rfl rfl rfl rfl rfl ⟨rfl, rfl, rfl, rfl, rfl⟩ rfl rfl rfl rfl rfl (by kernel_rfl) Tryz.func3 (by kernel_rfl)
    (of_decide_eq_true (by kernel_rfl)) (by unfold Func.isWrapper; first | (rw [if_pos (by decide +kernel)]; kernel_rfl) | (rw [if_neg (by decide +kernel)]; exact ⟨rfl, rfl⟩))
    (fun os started H enc _ => lifted os started H enc)
theorem proved : Rows.TopLoggedSaid := over
#print axioms proved
end Go.Proofs.YtgmdgaioiifgnaaGreat.topLogged
namespace Go.Proofs.YtgmdgaioiifgnaaGreat
/-- The row, under a short name, for the claim. -/
theorem topLogged_holds : Rows.TopLoggedSaid := topLogged.proved
end Go.Proofs.YtgmdgaioiifgnaaGreat
