/- Contracts of Go functions: what each returns, as a class of words, whatever the world. -/
import Derived.Test.YtmbadnaclpboiaaLaw
import Derived.Test.YtmbadnaclpboiaaProg
import Derived.BigQuiet
import Derived.Deep.QuietTactic
import Derived.Deep.RegionHeld3
import Derived.Deep.DeepFit
import Derived.WalkSpells
import Derived.Lib.Hide
import Derived.WalkSmall
namespace Go.Proofs.Ytmbadnaclpboiaa
open Go.RowKit Go.Fl

-- @has Float32bits
theorem f32bits_run (x : Nat) (w : World) : (callFunc 29 #[.float .f32 x]).run Try.prog w = .ok (.value (.int .u32 x)) w := by
  rw [run_callFunc_extern Try.func29 (e := Extern.MathFloatBits.float32bits) (by kernel_rfl) (by kernel_rfl) (by kernel_rfl) (by kernel_rfl)]; rfl

-- @has l01Bits
theorem l01Bits_c (b : Nat) (hb : WfC .f32 (cl .f32 b)) (w : World) :
    Calls Try.prog 28 #[.float .f32 b] w (RetV (.int .i64 (bitsC (cl .f32 b))) w) := by
  have hx := f32bits_run
  rcases h : cl .f32 b with _ | c
  · go_enter Try.func28, Try.ntmps28
    go_wp2
    go_ret
    exact ⟨0, rfl, rfl⟩
  · have hs := ford_self h
    obtain ⟨rfl, -⟩ := cl_some h
    have hb' : b < 2 ^ 32 := hb _ h
    clear hb
    go_enter Try.func28, Try.ntmps28
    go_wp2
    go_ret
    exact ⟨0, rfl, rfl⟩

-- @has l01Same
theorem l01Same_c (a b : Nat) (ha : WfC .f32 (cl .f32 a)) (hb : WfC .f32 (cl .f32 b)) (w : World) : Calls Try.prog 31 #[.float .f32 a, .float .f32 b] w (RetV (.bool (decide (cl .f32 a = cl .f32 b))) w) := by
  have hs := bitsC_same a b
  go_enter Try.func31, Try.ntmps31
  go_wp2_with (go_at_call 28; refine (l01Bits_c _ (by assumption) _).mono ?_; rintro e w' ⟨m, rfl, rfl⟩)
  go_ret
  exact ⟨_, rfl, rfl⟩

-- @has specSameNumber
theorem specSameNumber_c (a b : Nat) (ha : WfC .f32 (cl .f32 a)) (hb : WfC .f32 (cl .f32 b)) (w : World) : Calls Try.prog 20 #[.float .f32 a, .float .f32 b] w (RetV (.bool (decide (cl .f32 a = cl .f32 b))) w) := by
  go_enter Try.func20, Try.ntmps20
  go_wp2_with (go_at_call 31; refine (l01Same_c _ _ ha hb _).mono ?_; rintro e w' ⟨m, rfl, rfl⟩)
  go_ret
  exact ⟨_, rfl, rfl⟩

-- @has Float64bits
theorem f64bits_run (x : Nat) (w : World) : (callFunc 39 #[.float .f64 x]).run Try.prog w = .ok (.value (.int .u64 x)) w := by
  rw [run_callFunc_extern Try.func39 (e := Extern.MathFloatBits.float64bits) (by kernel_rfl) (by kernel_rfl) (by kernel_rfl) (by kernel_rfl)]; rfl

-- @has Signbit
theorem signbit_c (b : Nat) (w : World) : Calls Try.prog 32 #[.float .f64 b] w (RetV (.bool (sgn FloatKind.f64.format b)) w) := by
  have hx := f64bits_run
  go_enter Try.func32, Try.ntmps32
  go_wp2
  go_ret
  exact ⟨0, by rw [← signbit_eq]; rfl, rfl⟩

-- @has implSameNumber
theorem implSameNumber_c (a b : Nat) (ha : WfC .f32 (cl .f32 a)) (hb : WfC .f32 (cl .f32 b)) (w : World) : Calls Try.prog 21 #[.float .f32 a, .float .f32 b] w (RetV (.bool (decide (cl .f32 a = cl .f32 b))) w) := by
  rcases h1 : cl .f32 a with _ | c
  · rcases h2 : cl .f32 b with _ | d
    · go_enter Try.func21, Try.ntmps21
      go_wp2
      go_ret
      exact ⟨0, rfl, rfl⟩
    · have s2 := ford_self h2
      go_enter Try.func21, Try.ntmps21
      go_wp2
      go_ret
      exact ⟨0, rfl, rfl⟩
  · have s1 := ford_self h1
    rcases h2 : cl .f32 b with _ | d
    · go_enter Try.func21, Try.ntmps21
      go_wp2
      go_ret
      exact ⟨0, rfl, rfl⟩
    · have s2 := ford_self h2
      obtain ⟨x, x1, x2, x3, x4, x5⟩ := widen_cl h1
      obtain ⟨y, y1, y2, y3, y4, y5⟩ := widen_cl h2
      have hsame := same_word (cl_idem h1) (cl_idem h2) (ha _ h1) (hb _ h2)
      have H := Lib.hid hsame
      have X4 := Lib.hid x4
      have Y4 := Lib.hid y4
      clear hsame x2 x3 x4 x5 y2 y3 y4 y5 ha hb
      rcases ho : ford .f32 (some c) (some d) with _ | (_ | _ | _)
      all_goals
        go_enter Try.func21, Try.ntmps21
        go_wp2_with (first | (refine wpList_widen _ _ _ _ rfl _ rfl Try.underlying23 (by rw [Try.underlying24]; rfl) rfl ?_; intro b1 n1 hb1) | (go_at_call 32; refine (signbit_c _ _).mono ?_; rintro e w' ⟨n, rfl, rfl⟩))
        first
          | (have e1 := ‹cl .f64 _ = widen (cl .f32 a)›
             have e2 := ‹cl .f64 _ = widen (cl .f32 b)›
             rw [h1, x1] at e1
             rw [h2, y1] at e2
             obtain ⟨rfl, -⟩ := cl_some e1
             obtain ⟨rfl, -⟩ := cl_some e2
             go_ret
             exact ⟨_, by rw [← H.out, ho, ← X4.out, ← Y4.out]; rfl, rfl⟩)
          | (go_ret
             exact ⟨0, by rw [← H.out, ho]; rfl, rfl⟩)

-- @has FnExactSameNumber
theorem walk_FnExactSameNumber (a : Nat) (ha : a < 2 ^ 32) (b : Nat) (hb : b < 2 ^ 32) (w : World) : Calls Try.prog 8 #[.float .f32 a, .float .f32 b] w fun e w' => e = .returned (.bool true) ∧ Below w.heap.size w w' := by
  have wa : WfC .f32 (cl .f32 a) := wf_cl ha
  have wb : WfC .f32 (cl .f32 b) := wf_cl hb
  cases hf : decide (cl .f32 a = cl .f32 b)
  all_goals
    go_enter Try.func8, Try.ntmps8
    go_wp2_with (first | (go_at_call 20; refine (specSameNumber_c _ _ wa wb _).mono ?_; rintro e w' ⟨n, rfl, rfl⟩) | (go_at_call 21; refine (implSameNumber_c _ _ wa wb _).mono ?_; rintro e w' ⟨n, rfl, rfl⟩))
    go_ret
    exact ⟨rfl, below_drewN (Below.refl _ _) _⟩

end Go.Proofs.Ytmbadnaclpboiaa
