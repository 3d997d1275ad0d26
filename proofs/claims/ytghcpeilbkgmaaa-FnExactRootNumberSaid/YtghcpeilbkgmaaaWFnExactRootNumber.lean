/- Contracts of Go functions: what each returns, as a class of words, whatever the world. -/
import Derived.Test.YtghcpeilbkgmaaaLaw
import Derived.Test.YtghcpeilbkgmaaaProg
import Derived.BigQuiet
import Derived.Deep.QuietTactic
import Derived.Deep.RegionHeld3
import Derived.Deep.DeepFit
import Derived.WalkSpells
import Derived.Lib.Hide
import Derived.WalkSmall
import Derived.Deep.DeepCutAuto
namespace Go.Proofs.Ytghcpeilbkgmaaa
open Go.RowKit Go.Fl

-- @has sqrt
theorem sqrt_run (x : Nat) (w : World) : (callFunc 73 #[.float .f64 x]).run Try.prog w = ((Extern.MathSqrt.sqrt #[.float .f64 x]).run Try.prog w).andThen fun v w' => .ok (.value v) w' :=
  run_callFunc_extern Try.func73 (by kernel_rfl) (by kernel_rfl) (by kernel_rfl) (by kernel_rfl) _ _

-- @has Sqrt
theorem Sqrt_c (b : Nat) (w : World) : Calls Try.prog 62 #[.float .f64 b] w (RetF .f64 (fsqrt (cl .f64 b)) w) := by
  go_enter Try.func62, Try.ntmps62
  go_wp2_with (refine wpList_sqrt _ 73 sqrt_run _ _ rfl _ rfl rfl ?_; intro b1 n1 h1)
  go_ret
  exact ⟨_, _, rfl, by assumption, rfl⟩

-- @has l01NarrowRoot
theorem l01Narrow_c (b : Nat) (hf : fits (cl .f64 b) = true) (w : World) : Calls Try.prog 72 #[.float .f64 b] w (RetF .f32 (narrow (cl .f64 b)) w) := by
  have H := Lib.hid hf
  clear hf
  go_enter Try.func72, Try.ntmps72
  go_wp2_with (refine wpList_narrow _ _ _ _ rfl _ rfl Try.underlying25 (by rw [Try.underlying38]; rfl) rfl (H.out) ?_; intro b1 n1 h1)
  go_ret
  exact ⟨_, _, rfl, by assumption, rfl⟩

-- @has l01Sqrt
theorem l01Sqrt_c (b : Nat) (w : World) : Calls Try.prog 61 #[.float .f32 b] w (RetF .f32 (narrow (fsqrt (widen (cl .f32 b)))) w) := by
  have hf := Lib.hid (fits_sqrt b)
  go_enter Try.func61, Try.ntmps61
  go_wp2_with (first | (refine wpList_widen _ _ _ _ rfl _ rfl Try.underlying38 (by rw [Try.underlying25]; rfl) rfl ?_; intro b1 n1 h1) | (go_at_call 62; refine (Sqrt_c _ _).mono ?_; rintro e w1 ⟨r, n, rfl, hr, rfl⟩) | (go_at_call 72; refine (l01Narrow_c _ (by rw [hr, h1]; exact hf.out) _).mono ?_; rintro e w1 ⟨q, m, rfl, hq, rfl⟩))
  go_ret
  exact ⟨_, _, rfl, by simp only [*], rfl⟩

-- @has specRootNumber
theorem specRootNumber_c (b : Nat) (w : World) : Calls Try.prog 40 #[.float .f32 b] w (RetF .f32 (narrow (fsqrt (widen (cl .f32 b)))) w) := by
  go_enter Try.func40, Try.ntmps40
  go_wp2_with (go_at_call 61; refine (l01Sqrt_c _ _).mono ?_; rintro e w1 ⟨r, n, rfl, hr, rfl⟩)
  go_ret
  exact ⟨_, _, rfl, hr, rfl⟩

-- @has implRootNumber
theorem implRootNumber_c (b : Nat) (w : World) : Calls Try.prog 41 #[.float .f32 b] w (RetF .f32 (narrow (fsqrt (widen (cl .f32 b)))) w) := by
  have hf := Lib.hid (fits_sqrt b)
  go_enter Try.func41, Try.ntmps41
  go_wp2_with (first | (refine wpList_widen _ _ _ _ rfl _ rfl Try.underlying38 (by rw [Try.underlying25]; rfl) rfl ?_; intro b1 n1 h1) | (go_at_call 62; refine (Sqrt_c _ _).mono ?_; rintro e w1 ⟨r, n, rfl, hr, rfl⟩) | (refine wpList_narrow _ _ _ _ rfl _ rfl Try.underlying25 (by rw [Try.underlying38]; rfl) rfl (by rw [hr, h1]; exact hf.out) ?_; intro b1 n1 h1))
  go_ret
  exact ⟨_, _, rfl, by simp only [*], rfl⟩

-- @has sameFloat
set_option maxHeartbeats 400000 in
theorem sameFloat_true (a b : Nat) (h : cl .f64 a = cl .f64 b) (w : World) :
    Calls Try.prog 31 #[.float .f64 a, .float .f64 b] w (RetV (.bool true) w) := by
  generalize hb : cl .f64 b = c at h
  rcases c with _ | c
  · go_enter Try.func31, Try.ntmps31
    go_wp2
    go_ret
    exact ⟨0, rfl, rfl⟩
  · have hs := ford_self h
    rcases h0 : ford .f64 (some c) (cl .f64 0) with _ | (_ | _ | _)
    all_goals
      go_enter Try.func31, Try.ntmps31
      go_wp2_with (refine wpList_farith _ _ _ _ _ _ rfl rfl _ _ _ rfl rfl rfl ?_; intro b1 n1 h1)
      go_ret
      first | exact ⟨0, rfl, rfl⟩ | exact ⟨_, rfl, rfl⟩

-- @has FnExactRootNumber
theorem walk_FnExactRootNumber (b : Nat) (_hb : b < 2 ^ 32) (w : World) : Calls Try.prog 13 #[.float .f32 b] w fun e w' => e = .returned (.bool true) ∧ Below w.heap.size w w' := by
  go_enter Try.func13, Try.ntmps13
  go_wp2_with (first | (go_at_call 40; refine (specRootNumber_c _ _).mono ?_; rintro e w1 ⟨r, n, rfl, hr, rfl⟩) | (go_at_call 41; refine (implRootNumber_c _ _).mono ?_; rintro e w1 ⟨q, m, rfl, hq, rfl⟩) | (refine wpList_widen _ _ _ _ rfl _ rfl Try.underlying38 (by rw [Try.underlying25]; rfl) rfl ?_; intro b1 n1 h1) | (go_at_call 31; refine (sameFloat_true _ _ (by simp only [*]) _).mono ?_; rintro e w1 ⟨m1, rfl, rfl⟩))
  go_ret
  exact ⟨rfl, below_drewN (Below.refl _ _) _⟩

end Go.Proofs.Ytghcpeilbkgmaaa
