/- Contracts of Go functions: what each returns, as a class of words, whatever the world. -/
import Derived.Test.YtmbadnaclpboiaaLaw
import Derived.Test.YtmbadnaclpboiaaProg
import Derived.BigQuiet
import Derived.Deep.QuietTactic
import Derived.Deep.RegionHeld3
import Derived.Deep.DeepFit
import Derived.WalkSpells
import Derived.Lib.Hide
import Derived.WalkSmall
namespace Go.Proofs.Ytmbadnaclpboiaa
open Go.RowKit Go.Fl

-- @has Float32bits
theorem f32bits_run (x : Nat) (w : World) : (callFunc 29 #[.float .f32 x]).run Try.prog w = .ok (.value (.int .u32 x)) w := by
  rw [run_callFunc_extern Try.func29 (e := Extern.MathFloatBits.float32bits) (by kernel_rfl) (by kernel_rfl) (by kernel_rfl) (by kernel_rfl)]; rfl

-- @has l01Bits
theorem l01Bits_c (b : Nat) (hb : WfC .f32 (cl .f32 b)) (w : World) :
    Calls Try.prog 28 #[.float .f32 b] w (RetV (.int .i64 (bitsC (cl .f32 b))) w) := by
  have hx := f32bits_run
  rcases h : cl .f32 b with _ | c
  · go_enter Try.func28, Try.ntmps28
    go_wp2
    go_ret
    exact ⟨0, rfl, rfl⟩
  · have hs := ford_self h
    obtain ⟨rfl, -⟩ := cl_some h
    have hb' : b < 2 ^ 32 := hb _ h
    clear hb
    go_enter Try.func28, Try.ntmps28
    go_wp2
    go_ret
    exact ⟨0, rfl, rfl⟩

-- @has specBitsOf
theorem specBitsOf_c (b : Nat) (hb : WfC .f32 (cl .f32 b)) (w : World) :
    Calls Try.prog 14 #[.float .f32 b] w (RetV (.int .i64 (bitsC (cl .f32 b))) w) := by
  go_enter Try.func14, Try.ntmps14
  go_wp2_with (go_at_call 28; refine (l01Bits_c _ hb _).mono ?_; rintro e w' ⟨n, rfl, rfl⟩)
  go_ret
  exact ⟨_, rfl, rfl⟩

-- @has implBitsOf
theorem implBitsOf_c (b : Nat) (hb : WfC .f32 (cl .f32 b)) (w : World) :
    Calls Try.prog 15 #[.float .f32 b] w (RetV (.int .i64 (bitsC (cl .f32 b))) w) := by
  have hx := f32bits_run
  rcases h : cl .f32 b with _ | c
  · go_enter Try.func15, Try.ntmps15
    go_wp2
    go_ret
    exact ⟨0, rfl, rfl⟩
  · have hs := ford_self h
    obtain ⟨rfl, -⟩ := cl_some h
    have hb' : b < 2 ^ 32 := hb _ h
    clear hb
    go_enter Try.func15, Try.ntmps15
    go_wp2
    go_ret
    exact ⟨0, rfl, rfl⟩

-- @has FnExactBitsOf
theorem walk_FnExactBitsOf (b : Nat) (hb : b < 2 ^ 32) (w : World) : Calls Try.prog 5 #[.float .f32 b] w fun e w' => e = .returned (.bool true) ∧ Below w.heap.size w w' := by
  have hw : WfC .f32 (cl .f32 b) := wf_cl hb
  go_enter Try.func5, Try.ntmps5
  go_wp2_with (first | (go_at_call 14; refine (specBitsOf_c _ hw _).mono ?_; rintro e w' ⟨n, rfl, rfl⟩) | (go_at_call 15; refine (implBitsOf_c _ hw _).mono ?_; rintro e w' ⟨n, rfl, rfl⟩))
  go_ret
  exact ⟨rfl, below_drewN (Below.refl _ _) _⟩

end Go.Proofs.Ytmbadnaclpboiaa
