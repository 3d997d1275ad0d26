/- The law 'FnExactSizeOfVector' holds for every input: its row, over the walk. -/
import Derived.Test.YtghcpeilbkgmaaaWFnExactSizeOfVector
import Derived.Test.YtghcpeilbkgmaaaRow
import Derived.Test.YtghcpeilbkgmaaaRows
namespace Go.Proofs.Ytghcpeilbkgmaaa.fnExactSizeOfVector
open Go.ChangeShapes Go.WideShapes Go.ChangeAt Go.RowKit Go.Joins Go.Deep Go.Fl
open Go.ChangeMaps (open_string shut_string)
set_option linter.unusedVariables false

theorem own : ownKnob Try.prog.godebug = none := by kernel_rfl
theorem laidOut : laidOutB Try.prog = true := by kernel_rfl

set_option maxRecDepth 100000 in
theorem lifted (os : Os) (started : os.Started) (H : Type) (enc : TypeId × Value → H) :
    ReturnsInHanded {} Try.checked os 14 .any (Rows.fnExactSizeOfVectorSpec.pre6 enc Try.prog Try.f14 Rows.fnExactSizeOfVectorRow.domain false) (Rows.fnExactSizeOfVectorSpec.post enc Try.prog Try.f14 false true false false) := by
  refine returnsInHanded_of_change (C := Try.checked) own started (by kernel_rfl) Try.func14
    (ChangeSpec.witness6 (enc := enc) (C := Try.checked) false ⟨#[], #[.agg #[.float .f32 0, .float .f32 0, .float .f32 0]], []⟩ 8 (by kernel_rfl) (by kernel_rfl) (by kernel_rfl) (by kernel_rfl)) ?_
  intro W base args ds gs before hval0 hW hcnd _
  have hval : ∀ (j : Nat) t v, Try.f14.params[j]? = some t → args[j]? = some v → Value.okWide Try.prog W .any base t v := hval0
  have hW' := hW
  obtain ⟨p, q, hA0, hV, rfl, hfz, hnd⟩ := hW
  have hA : DataW.TrodAll enc Try.prog W 0 (fun _ => true) true Try.f14.params.toList args.toList ds p := hA0
  rw [Try.params14] at hA hval
  obtain ⟨v0, vs0, d0, ds0, p0, q0, hargs, rfl, rfl, h0, r0⟩ := trodAll_cons hA
  obtain ⟨rfl, rfl, rfl⟩ := trodAll_nil r0
  obtain rfl : args = #[v0] := by cases args; simp_all
  obtain ⟨rfl, rfl⟩ := trodVars_none hV
  have k0 := h0
  have lt0 : ∀ x ∈ p0, x.block < W.heap.size := by obtain ⟨m, hm⟩ := k0; exact DataW.trod_lt m _ _ _ hm
  obtain ⟨x00, x01, x02, y00, y01, y02, n0, rfl, -, -, e00, e01, e02⟩ := open_agg3 Try.underlying28 (by kernel_rfl) (by kernel_rfl : Try.prog.cellsOf 28 = 3) (hval 0 28 v0 rfl rfl) h0
  obtain ⟨b00, c00, -, w00⟩ := trod_float Try.underlying25 e00
  obtain rfl : x00 = .float .f32 b00 := by simpa using c00
  have w00 : b00 < 2 ^ 32 := by simpa [Lit.wf] using w00
  obtain ⟨b01, c01, -, w01⟩ := trod_float Try.underlying25 e01
  obtain rfl : x01 = .float .f32 b01 := by simpa using c01
  have w01 : b01 < 2 ^ 32 := by simpa [Lit.wf] using w01
  obtain ⟨b02, c02, -, w02⟩ := trod_float Try.underlying25 e02
  obtain rfl : x02 = .float .f32 b02 := by simpa using c02
  have w02 : b02 < 2 ^ 32 := by simpa [Lit.wf] using w02
  clear hA0 hval0
  refine (walk_FnExactSizeOfVector b00 b01 b02 w00 w01 w02 W).mono fun e W' ⟨he, bel⟩ => ?_
  subst he
  exact ⟨_, rfl, _, _, _, [], _, [], hW', trodAll_mk1 (shut_bool Try.underlying4 _), (trodAll_cons_mk (Below.trod laidOut (by kernel_rfl) (of_decide_eq_true (by kernel_rfl)) k0 bel lt0) trodAll_mk0), rfl, bel.frame _, fun h => by cases h⟩

theorem over : Rows.fnExactSizeOfVectorRow.holds Try.pinned (OpenSpec.ofChange Rows.fnExactSizeOfVectorSpec) :=
  OpenClaim.holds_of_wide 14 Try.f14 rfl rfl rfl rfl rfl rfl rfl ⟨rfl, rfl, rfl, rfl, rfl⟩ rfl rfl rfl rfl rfl (by kernel_rfl) Try.func14 (by kernel_rfl)
    (of_decide_eq_true (by kernel_rfl)) (by unfold Func.isWrapper; first | (rw [if_pos (by decide +kernel)]; kernel_rfl) | (rw [if_neg (by decide +kernel)]; exact ⟨rfl, rfl⟩))
    (fun os started H enc _ => lifted os started H enc)

theorem proved : Rows.FnExactSizeOfVectorSaid := over
#print axioms proved
end Go.Proofs.Ytghcpeilbkgmaaa.fnExactSizeOfVector
