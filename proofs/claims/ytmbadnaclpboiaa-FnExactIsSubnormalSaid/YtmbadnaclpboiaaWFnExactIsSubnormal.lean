/- Contracts of Go functions: what each returns, as a class of words, whatever the world. -/
import Derived.Test.YtmbadnaclpboiaaLaw
import Derived.Test.YtmbadnaclpboiaaProg
import Derived.BigQuiet
import Derived.Deep.QuietTactic
import Derived.Deep.RegionHeld3
import Derived.Deep.DeepFit
import Derived.WalkSpells
import Derived.Lib.Hide
import Derived.WalkSmall
namespace Go.Proofs.Ytmbadnaclpboiaa
open Go.RowKit Go.Fl

-- @has Float32bits
theorem f32bits_run (x : Nat) (w : World) : (callFunc 29 #[.float .f32 x]).run Try.prog w = .ok (.value (.int .u32 x)) w := by
  rw [run_callFunc_extern Try.func29 (e := Extern.MathFloatBits.float32bits) (by kernel_rfl) (by kernel_rfl) (by kernel_rfl) (by kernel_rfl)]; rfl

-- @has l01Bits
theorem l01Bits_c (b : Nat) (hb : WfC .f32 (cl .f32 b)) (w : World) :
    Calls Try.prog 28 #[.float .f32 b] w (RetV (.int .i64 (bitsC (cl .f32 b))) w) := by
  have hx := f32bits_run
  rcases h : cl .f32 b with _ | c
  · go_enter Try.func28, Try.ntmps28
    go_wp2
    go_ret
    exact ⟨0, rfl, rfl⟩
  · have hs := ford_self h
    obtain ⟨rfl, -⟩ := cl_some h
    have hb' : b < 2 ^ 32 := hb _ h
    clear hb
    go_enter Try.func28, Try.ntmps28
    go_wp2
    go_ret
    exact ⟨0, rfl, rfl⟩

-- @has specIsSubnormal
theorem specIsSubnormal_c (b : Nat) (hb : WfC .f32 (cl .f32 b)) (w : World) : Calls Try.prog 16 #[.float .f32 b] w (RetV (.bool (subC (cl .f32 b))) w) := by
  rcases h1 : cl .f32 b with _ | c
  · go_enter Try.func16, Try.ntmps16
    go_wp2_with (go_at_call 28; refine (l01Bits_c _ hb _).mono ?_; rintro e w' ⟨n, rfl, rfl⟩)
    go_ret
    exact ⟨_, rfl, rfl⟩
  · obtain ⟨rfl, -⟩ := cl_some h1
    have hm := mask_eq (hb _ h1)
    by_cases h0 : rung FloatKind.f32.format b = 0
    · have hz := ford_zero_eq h1 h0
      clear hm
      go_enter Try.func16, Try.ntmps16
      go_wp2_with (go_at_call 28; refine (l01Bits_c _ hb _).mono ?_; rintro e w' ⟨n, rfl, rfl⟩)
      go_ret
      exact ⟨0, by rw [subC_zero h0]; rfl, rfl⟩
    · obtain ⟨hz, hz'⟩ := ford_zero_ne h1 h0
      have H := Lib.hid hm
      clear hm hz'
      go_enter Try.func16, Try.ntmps16
      go_wp2_with (go_at_call 28; refine (l01Bits_c _ hb _).mono ?_; rintro e w' ⟨n, rfl, rfl⟩)
      go_ret
      refine ⟨_, ?_, rfl⟩
      have e : subC (some b) = (bits .and .i64 (bitsC (some b)) 2139095040 == 0) := by
        show _ = (bits .and .i64 (b : Int) 2139095040 == 0)
        rw [H.out]; unfold subC; simp [h0]
      rw [e]; rfl

-- @has Float64bits
theorem f64bits_run (x : Nat) (w : World) : (callFunc 39 #[.float .f64 x]).run Try.prog w = .ok (.value (.int .u64 x)) w := by
  rw [run_callFunc_extern Try.func39 (e := Extern.MathFloatBits.float64bits) (by kernel_rfl) (by kernel_rfl) (by kernel_rfl) (by kernel_rfl)]; rfl

-- @has Float64frombits
theorem f64from_run (n : Int) (w : World) : (callFunc 38 #[.int .u64 n]).run Try.prog w = .ok (.value (.float .f64 n.toNat)) w := by
  rw [run_callFunc_extern Try.func38 (e := Extern.MathFloatBits.float64frombits) (by kernel_rfl) (by kernel_rfl) (by kernel_rfl) (by kernel_rfl)]; rfl

-- @has Abs
theorem abs_c (b : Nat) (w : World) : Calls Try.prog 30 #[.float .f64 b] w (RetF .f64 (absC (cl .f64 b)) w) := by
  have hx := f64bits_run
  have hy := f64from_run
  go_enter Try.func30, Try.ntmps30
  go_wp2
  go_ret
  exact ⟨_, 0, rfl, by rw [bits_andNot63]; exact cl_abs b, rfl⟩

-- @has implIsSubnormal
theorem implIsSubnormal_c (b : Nat) (w : World) : Calls Try.prog 17 #[.float .f32 b] w (RetV (.bool (subC (cl .f32 b))) w) := by
  rcases h1 : cl .f32 b with _ | c
  · go_enter Try.func17, Try.ntmps17
    go_wp2_with (first | (refine wpList_widen _ _ _ _ rfl _ rfl Try.underlying23 (by rw [Try.underlying24]; rfl) rfl ?_; intro b1 n1 hb1) | (go_at_call 30; refine (abs_c _ _).mono ?_; rintro e w' ⟨r, n, rfl, hr, rfl⟩))
    go_ret
    exact ⟨_, rfl, rfl⟩
  · obtain ⟨rfl, -⟩ := cl_some h1
    have hm := below_least h1
    by_cases h0 : rung FloatKind.f32.format b = 0
    · have hz := ford_zero_eq h1 h0
      clear hm
      go_enter Try.func17, Try.ntmps17
      go_wp2
      go_ret
      exact ⟨0, by rw [subC_zero h0]; rfl, rfl⟩
    · obtain ⟨hz, hz'⟩ := ford_zero_ne h1 h0
      have H := Lib.hid hm
      clear hm hz'
      go_enter Try.func17, Try.ntmps17
      go_wp2_with (first | (refine wpList_widen _ _ _ _ rfl _ rfl Try.underlying23 (by rw [Try.underlying24]; rfl) rfl ?_; intro b1 n1 hb1) | (go_at_call 30; refine (abs_c _ _).mono ?_; rintro e w' ⟨r, n, rfl, hr, rfl⟩))
      go_ret
      refine ⟨_, ?_, rfl⟩
      have e : subC (some b) = (ford .f64 (absC (widen (some b))) (cl .f64 4039728865751334912) == some .lt) := by
        rw [H.out]; unfold subC; simp [h0]
      rw [e]; rfl

-- @has FnExactIsSubnormal
theorem walk_FnExactIsSubnormal (b : Nat) (hb : b < 2 ^ 32) (w : World) : Calls Try.prog 6 #[.float .f32 b] w fun e w' => e = .returned (.bool true) ∧ Below w.heap.size w w' := by
  have wb : WfC .f32 (cl .f32 b) := wf_cl hb
  cases hf : subC (cl .f32 b)
  all_goals
    go_enter Try.func6, Try.ntmps6
    go_wp2_with (first | (go_at_call 16; refine (specIsSubnormal_c _ wb _).mono ?_; rintro e w' ⟨n, rfl, rfl⟩) | (go_at_call 17; refine (implIsSubnormal_c _ _).mono ?_; rintro e w' ⟨n, rfl, rfl⟩))
    go_ret
    exact ⟨rfl, below_drewN (Below.refl _ _) _⟩

end Go.Proofs.Ytmbadnaclpboiaa
