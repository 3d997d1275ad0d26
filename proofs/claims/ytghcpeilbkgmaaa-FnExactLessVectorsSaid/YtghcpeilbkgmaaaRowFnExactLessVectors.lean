/- The law 'FnExactLessVectors' holds for every input: its row, over the walk. -/
import Derived.Test.YtghcpeilbkgmaaaWFnExactLessVectors
import Derived.Test.YtghcpeilbkgmaaaRow
import Derived.Test.YtghcpeilbkgmaaaRows
namespace Go.Proofs.Ytghcpeilbkgmaaa.fnExactLessVectors
open Go.ChangeShapes Go.WideShapes Go.ChangeAt Go.RowKit Go.Joins Go.Deep Go.Fl
open Go.ChangeMaps (open_string shut_string)
set_option linter.unusedVariables false

theorem own : ownKnob Try.prog.godebug = none := by kernel_rfl
theorem laidOut : laidOutB Try.prog = true := by kernel_rfl

set_option maxRecDepth 100000 in
theorem lifted (os : Os) (started : os.Started) (H : Type) (enc : TypeId × Value → H) :
    ReturnsInHanded {} Try.checked os 6 .any (Rows.fnExactLessVectorsSpec.pre6 enc Try.prog Try.f6 Rows.fnExactLessVectorsRow.domain false) (Rows.fnExactLessVectorsSpec.post enc Try.prog Try.f6 false true false false) := by
  refine returnsInHanded_of_change (C := Try.checked) own started (by kernel_rfl) Try.func6
    (ChangeSpec.witness6 (enc := enc) (C := Try.checked) false ⟨#[], #[.agg #[.float .f32 0, .float .f32 0, .float .f32 0], .agg #[.float .f32 0, .float .f32 0, .float .f32 0]], []⟩ 8 (by kernel_rfl) (by kernel_rfl) (by kernel_rfl) (by kernel_rfl)) ?_
  intro W base args ds gs before hval0 hW hcnd _
  have hval : ∀ (j : Nat) t v, Try.f6.params[j]? = some t → args[j]? = some v → Value.okWide Try.prog W .any base t v := hval0
  have hW' := hW
  obtain ⟨p, q, hA0, hV, rfl, hfz, hnd⟩ := hW
  have hA : DataW.TrodAll enc Try.prog W 0 (fun _ => true) true Try.f6.params.toList args.toList ds p := hA0
  rw [Try.params6] at hA hval
  obtain ⟨v0, vs0, d0, ds0, p0, q0, hargs, rfl, rfl, h0, r0⟩ := trodAll_cons hA
  obtain ⟨v1, vs1, d1, ds1, p1, q1, rfl, rfl, rfl, h1, r1⟩ := trodAll_cons r0
  obtain ⟨rfl, rfl, rfl⟩ := trodAll_nil r1
  obtain rfl : args = #[v0, v1] := by cases args; simp_all
  obtain ⟨rfl, rfl⟩ := trodVars_none hV
  have k0 := h0
  have lt0 : ∀ x ∈ p0, x.block < W.heap.size := by obtain ⟨m, hm⟩ := k0; exact DataW.trod_lt m _ _ _ hm
  obtain ⟨x00, x01, x02, y00, y01, y02, n0, rfl, -, -, e00, e01, e02⟩ := open_agg3 Try.underlying28 (by kernel_rfl) (by kernel_rfl : Try.prog.cellsOf 28 = 3) (hval 0 28 v0 rfl rfl) h0
  obtain ⟨b00, c00, -, w00⟩ := trod_float Try.underlying25 e00
  obtain rfl : x00 = .float .f32 b00 := by simpa using c00
  have w00 : b00 < 2 ^ 32 := by simpa [Lit.wf] using w00
  obtain ⟨b01, c01, -, w01⟩ := trod_float Try.underlying25 e01
  obtain rfl : x01 = .float .f32 b01 := by simpa using c01
  have w01 : b01 < 2 ^ 32 := by simpa [Lit.wf] using w01
  obtain ⟨b02, c02, -, w02⟩ := trod_float Try.underlying25 e02
  obtain rfl : x02 = .float .f32 b02 := by simpa using c02
  have w02 : b02 < 2 ^ 32 := by simpa [Lit.wf] using w02
  have k1 := h1
  have lt1 : ∀ x ∈ p1, x.block < W.heap.size := by obtain ⟨m, hm⟩ := k1; exact DataW.trod_lt m _ _ _ hm
  obtain ⟨x10, x11, x12, y10, y11, y12, n1, rfl, -, -, e10, e11, e12⟩ := open_agg3 Try.underlying28 (by kernel_rfl) (by kernel_rfl : Try.prog.cellsOf 28 = 3) (hval 1 28 v1 rfl rfl) h1
  obtain ⟨b10, c10, -, w10⟩ := trod_float Try.underlying25 e10
  obtain rfl : x10 = .float .f32 b10 := by simpa using c10
  have w10 : b10 < 2 ^ 32 := by simpa [Lit.wf] using w10
  obtain ⟨b11, c11, -, w11⟩ := trod_float Try.underlying25 e11
  obtain rfl : x11 = .float .f32 b11 := by simpa using c11
  have w11 : b11 < 2 ^ 32 := by simpa [Lit.wf] using w11
  obtain ⟨b12, c12, -, w12⟩ := trod_float Try.underlying25 e12
  obtain rfl : x12 = .float .f32 b12 := by simpa using c12
  have w12 : b12 < 2 ^ 32 := by simpa [Lit.wf] using w12
  clear hA0 hval0
  refine (walk_FnExactLessVectors b00 b01 b02 w00 w01 w02 b10 b11 b12 w10 w11 w12 W).mono fun e W' ⟨he, bel⟩ => ?_
  subst he
  exact ⟨_, rfl, _, _, _, [], _, [], hW', trodAll_mk1 (shut_bool Try.underlying4 _), (trodAll_cons_mk (Below.trod laidOut (by kernel_rfl) (of_decide_eq_true (by kernel_rfl)) k0 bel lt0) (trodAll_cons_mk (Below.trod laidOut (by kernel_rfl) (of_decide_eq_true (by kernel_rfl)) k1 bel lt1) trodAll_mk0)), rfl, bel.frame _, fun h => by cases h⟩

theorem over : Rows.fnExactLessVectorsRow.holds Try.pinned (OpenSpec.ofChange Rows.fnExactLessVectorsSpec) :=
  OpenClaim.holds_of_wide 6 Try.f6 rfl rfl rfl rfl rfl rfl rfl ⟨rfl, rfl, rfl, rfl, rfl⟩ rfl rfl rfl rfl rfl (by kernel_rfl) Try.func6 (by kernel_rfl)
    (of_decide_eq_true (by kernel_rfl)) (by unfold Func.isWrapper; first | (rw [if_pos (by decide +kernel)]; kernel_rfl) | (rw [if_neg (by decide +kernel)]; exact ⟨rfl, rfl⟩))
    (fun os started H enc _ => lifted os started H enc)

theorem proved : Rows.FnExactLessVectorsSaid := over
#print axioms proved
end Go.Proofs.Ytghcpeilbkgmaaa.fnExactLessVectors
