/- The law 'FnExactValidOrbit' holds for every input: its row, over the walk. -/
import Derived.Test.YtepeohbcnfgliaaWFnExactValidOrbit
import Derived.Test.YtepeohbcnfgliaaRow
import Derived.Test.YtepeohbcnfgliaaRows
namespace Go.Proofs.Ytepeohbcnfgliaa.fnExactValidOrbit
open Go.ChangeShapes Go.WideShapes Go.ChangeAt Go.RowKit Go.Joins Go.Deep Go.Fl
open Go.ChangeMaps (open_string shut_string)
set_option linter.unusedVariables false

theorem own : ownKnob Try.prog.godebug = none := by kernel_rfl
theorem laidOut : laidOutB Try.prog = true := by kernel_rfl

set_option maxRecDepth 100000 in
theorem lifted (os : Os) (started : os.Started) (H : Type) (enc : TypeId × Value → H) :
    ReturnsInHanded {} Try.checked os 4 .any (Rows.fnExactValidOrbitSpec.pre6 enc Try.prog Try.f4 Rows.fnExactValidOrbitRow.domain false) (Rows.fnExactValidOrbitSpec.post enc Try.prog Try.f4 false true false false) := by
  refine returnsInHanded_of_change (C := Try.checked) own started (by kernel_rfl) Try.func4
    (ChangeSpec.witness6 (enc := enc) (C := Try.checked) false ⟨#[], #[.agg #[.float .f32 0, .float .f32 0, .float .f32 0, .float .f32 0, .float .f32 0, .float .f32 0]], []⟩ 8 (by kernel_rfl) (by kernel_rfl) (by kernel_rfl) (by kernel_rfl)) ?_
  intro W base args ds gs before hval0 hW hcnd _
  have hval : ∀ (j : Nat) t v, Try.f4.params[j]? = some t → args[j]? = some v → Value.okWide Try.prog W .any base t v := hval0
  have hW' := hW
  obtain ⟨p, q, hA0, hV, rfl, hfz, hnd⟩ := hW
  have hA : DataW.TrodAll enc Try.prog W 0 (fun _ => true) true Try.f4.params.toList args.toList ds p := hA0
  rw [Try.params4] at hA hval
  obtain ⟨v0, vs0, d0, ds0, p0, q0, hargs, rfl, rfl, h0, r0⟩ := trodAll_cons hA
  obtain ⟨rfl, rfl, rfl⟩ := trodAll_nil r0
  obtain rfl : args = #[v0] := by cases args; simp_all
  obtain ⟨rfl, rfl⟩ := trodVars_none hV
  have k0 := h0
  have lt0 : ∀ x ∈ p0, x.block < W.heap.size := by obtain ⟨m, hm⟩ := k0; exact DataW.trod_lt m _ _ _ hm
  obtain ⟨cs0, rfl, n0, e0⟩ := open_allF Try.underlying24 (by kernel_rfl) (by kernel_rfl : Try.prog.cellsOf 24 = 6) 22 Try.underlying22 (by kernel_rfl) (hval 0 24 v0 rfl rfl) h0
  obtain ⟨b00, c00, w00⟩ := e0 0 (by decide)
  obtain ⟨b01, c01, w01⟩ := e0 1 (by decide)
  obtain ⟨b02, c02, w02⟩ := e0 2 (by decide)
  obtain ⟨b03, c03, w03⟩ := e0 3 (by decide)
  obtain ⟨b04, c04, w04⟩ := e0 4 (by decide)
  obtain ⟨b05, c05, w05⟩ := e0 5 (by decide)
  obtain rfl := arr6 n0 c00 c01 c02 c03 c04 c05
  clear hA0 hval0
  refine (walk_FnExactValidOrbit b00 b01 b02 b03 b04 b05 w00 w01 w02 w03 w04 w05 W).mono fun e W' ⟨he, bel⟩ => ?_
  subst he
  exact ⟨_, rfl, _, _, _, [], _, [], hW', trodAll_mk1 (shut_bool Try.underlying4 _), (trodAll_cons_mk (Below.trod laidOut (by kernel_rfl) (of_decide_eq_true (by kernel_rfl)) k0 bel lt0) trodAll_mk0), rfl, bel.frame _, fun h => by cases h⟩

theorem over : Rows.fnExactValidOrbitRow.holds Try.pinned (OpenSpec.ofChange Rows.fnExactValidOrbitSpec) :=
  OpenClaim.holds_of_wide 4 Try.f4 rfl rfl rfl rfl rfl rfl rfl ⟨rfl, rfl, rfl, rfl, rfl⟩ rfl rfl rfl rfl rfl (by kernel_rfl) Try.func4 (by kernel_rfl)
    (of_decide_eq_true (by kernel_rfl)) (by unfold Func.isWrapper; first | (rw [if_pos (by decide +kernel)]; kernel_rfl) | (rw [if_neg (by decide +kernel)]; exact ⟨rfl, rfl⟩))
    (fun os started H enc _ => lifted os started H enc)

theorem proved : Rows.FnExactValidOrbitSaid := over
#print axioms proved
end Go.Proofs.Ytepeohbcnfgliaa.fnExactValidOrbit
