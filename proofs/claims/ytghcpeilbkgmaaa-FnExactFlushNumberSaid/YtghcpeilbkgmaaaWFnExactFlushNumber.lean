/- Contracts of Go functions: what each returns, as a class of words, whatever the world. -/
import Derived.Test.YtghcpeilbkgmaaaLaw
import Derived.Test.YtghcpeilbkgmaaaProg
import Derived.BigQuiet
import Derived.Deep.QuietTactic
import Derived.Deep.RegionHeld3
import Derived.Deep.DeepFit
import Derived.WalkSpells
import Derived.Lib.Hide
import Derived.WalkSmall
import Derived.Deep.DeepCutAuto
namespace Go.Proofs.Ytghcpeilbkgmaaa
open Go.RowKit Go.Fl

-- @has Float32bits
theorem f32bits_run (x : Nat) (w : World) : (callFunc 75 #[.float .f32 x]).run Try.prog w = .ok (.value (.int .u32 x)) w := by
  rw [run_callFunc_extern Try.func75 (e := Extern.MathFloatBits.float32bits) (by kernel_rfl) (by kernel_rfl) (by kernel_rfl) (by kernel_rfl)]; rfl

-- @has l01Bits
theorem l01Bits_c (b : Nat) (hb : WfC .f32 (cl .f32 b)) (w : World) :
    Calls Try.prog 67 #[.float .f32 b] w (RetV (.int .i64 (bitsC (cl .f32 b))) w) := by
  have hx := f32bits_run
  rcases h : cl .f32 b with _ | c
  · go_enter Try.func67, Try.ntmps67
    go_wp2
    go_ret
    exact ⟨0, rfl, rfl⟩
  · have hs := ford_self h
    obtain ⟨rfl, -⟩ := cl_some h
    have hb' : b < 2 ^ 32 := hb _ h
    clear hb
    go_enter Try.func67, Try.ntmps67
    go_wp2
    go_ret
    exact ⟨0, rfl, rfl⟩

-- @has Float32frombits
theorem f32from_run (n : Int) (w : World) : (callFunc 76 #[.int .u32 n]).run Try.prog w = .ok (.value (.float .f32 n.toNat)) w := by
  rw [run_callFunc_extern Try.func76 (e := Extern.MathFloatBits.float32frombits) (by kernel_rfl) (by kernel_rfl) (by kernel_rfl) (by kernel_rfl)]; rfl

-- @has l01From
theorem l01From_c (n : Int) (h1 : 0 ≤ n) (h2 : n ≤ 4294967295) (w : World) : Calls Try.prog 68 #[.int .i64 n] w (RetV (.float .f32 n.toNat) w) := by
  have hx := f32from_run
  go_enter Try.func68, Try.ntmps68
  go_wp2
  go_ret
  exact ⟨0, rfl, rfl⟩

-- @has l01Flush
theorem l01Flush_c (b : Nat) (hb : b < 2 ^ 32) (w : World) : Calls Try.prog 54 #[.float .f32 b] w (RetF .f32 (flushC (cl .f32 b)) w) := by
  have wb : WfC .f32 (cl .f32 b) := wf_cl hb
  rcases h1 : cl .f32 b with _ | c
  · go_enter Try.func54, Try.ntmps54
    go_wp2_with (go_at_call 67; refine (l01Bits_c _ wb _).mono ?_; rintro e w1 ⟨n, rfl, rfl⟩)
    go_ret
    exact ⟨_, _, rfl, h1, rfl⟩
  · obtain ⟨rfl, -⟩ := cl_some h1
    obtain ⟨z, hz, hzb⟩ : ∃ z : Nat, bits .and .i64 (b : Int) 2147483648 = (z : Int) ∧ z = b / 2 ^ 31 * 2 ^ 31 := ⟨_, bits_sign b hb, rfl⟩
    have HZ := Lib.hid hzb
    have hz1 : (0 : Int) ≤ z := by omega
    have hz2 : (z : Int) ≤ 4294967295 := by omega
    have hm := mask_eq hb
    have hbc : bitsC (some b) = (b : Int) := rfl
    clear hzb
    by_cases hr : rung FloatKind.f32.format b < 2 ^ 23
    · have hf := Lib.hid (flushC_sub hr)
      rw [decide_eq_true hr] at hm
      go_enter Try.func54, Try.ntmps54
      go_wp2_with (first | (go_at_call 67; refine (l01Bits_c _ wb _).mono ?_; rintro e w1 ⟨n, rfl, rfl⟩) | (go_at_call 68; refine (l01From_c _ hz1 hz2 _).mono ?_; rintro e w1 ⟨n, rfl, rfl⟩))
      go_ret
      refine ⟨_, _, rfl, ?_, rfl⟩
      rw [hf.out, HZ.out]; exact cl_sign b
    · have hf := Lib.hid (flushC_not hr)
      rw [decide_eq_false hr] at hm
      go_enter Try.func54, Try.ntmps54
      go_wp2_with (go_at_call 67; refine (l01Bits_c _ wb _).mono ?_; rintro e w1 ⟨n, rfl, rfl⟩)
      go_ret
      exact ⟨_, _, rfl, by rw [hf.out]; exact h1, rfl⟩

-- @has specFlushNumber
theorem specFlushNumber_c (b : Nat) (hb : b < 2 ^ 32) (w : World) : Calls Try.prog 29 #[.float .f32 b] w (RetF .f32 (flushC (cl .f32 b)) w) := by
  go_enter Try.func29, Try.ntmps29
  go_wp2_with (go_at_call 54; refine (l01Flush_c _ hb _).mono ?_; rintro e w1 ⟨r, n, rfl, hr, rfl⟩)
  go_ret
  exact ⟨_, _, rfl, hr, rfl⟩

-- @has Float64bits
theorem f64bits_run (x : Nat) (w : World) : (callFunc 71 #[.float .f64 x]).run Try.prog w = .ok (.value (.int .u64 x)) w := by
  rw [run_callFunc_extern Try.func71 (e := Extern.MathFloatBits.float64bits) (by kernel_rfl) (by kernel_rfl) (by kernel_rfl) (by kernel_rfl)]; rfl

-- @has Float64frombits
theorem f64from_run (n : Int) (w : World) : (callFunc 70 #[.int .u64 n]).run Try.prog w = .ok (.value (.float .f64 n.toNat)) w := by
  rw [run_callFunc_extern Try.func70 (e := Extern.MathFloatBits.float64frombits) (by kernel_rfl) (by kernel_rfl) (by kernel_rfl) (by kernel_rfl)]; rfl

-- @has Abs
theorem abs_c (b : Nat) (w : World) : Calls Try.prog 69 #[.float .f64 b] w (RetF .f64 (absC (cl .f64 b)) w) := by
  have hx := f64bits_run
  have hy := f64from_run
  go_enter Try.func69, Try.ntmps69
  go_wp2
  go_ret
  exact ⟨_, 0, rfl, by rw [bits_andNot63]; exact cl_abs b, rfl⟩

-- @has implIsSubnormal
theorem implIsSubnormal_c (b : Nat) (w : World) : Calls Try.prog 55 #[.float .f32 b] w (RetV (.bool (subC (cl .f32 b))) w) := by
  rcases h1 : cl .f32 b with _ | c
  · go_enter Try.func55, Try.ntmps55
    go_wp2_with (first | (refine wpList_widen _ _ _ _ rfl _ rfl Try.underlying38 (by rw [Try.underlying25]; rfl) rfl ?_; intro b1 n1 hb1) | (go_at_call 69; refine (abs_c _ _).mono ?_; rintro e w' ⟨r, n, rfl, hr, rfl⟩))
    go_ret
    exact ⟨_, rfl, rfl⟩
  · obtain ⟨rfl, -⟩ := cl_some h1
    have hm := below_least h1
    by_cases h0 : rung FloatKind.f32.format b = 0
    · have hz := ford_zero_eq h1 h0
      clear hm
      go_enter Try.func55, Try.ntmps55
      go_wp2
      go_ret
      exact ⟨0, by rw [subC_zero h0]; rfl, rfl⟩
    · obtain ⟨hz, hz'⟩ := ford_zero_ne h1 h0
      have H := Lib.hid hm
      clear hm hz'
      go_enter Try.func55, Try.ntmps55
      go_wp2_with (first | (refine wpList_widen _ _ _ _ rfl _ rfl Try.underlying38 (by rw [Try.underlying25]; rfl) rfl ?_; intro b1 n1 hb1) | (go_at_call 69; refine (abs_c _ _).mono ?_; rintro e w' ⟨r, n, rfl, hr, rfl⟩))
      go_ret
      refine ⟨_, ?_, rfl⟩
      have e : subC (some b) = (ford .f64 (absC (widen (some b))) (cl .f64 4039728865751334912) == some .lt) := by
        rw [H.out]; unfold subC; simp [h0]
      rw [e]; rfl

-- @has Copysign
theorem copysign0_c (c : Nat) (w : World) : Calls Try.prog 56 #[.float .f64 0, .float .f64 c] w (RetV (.float .f64 (c / 2 ^ 63 % 2 * 2 ^ 63)) w) := by
  have hx := f64bits_run
  have hy := f64from_run
  go_enter Try.func56, Try.ntmps56
  go_wp2
  go_ret
  exact ⟨0, by rw [← copysign_eq]; rfl, rfl⟩

-- @has implFlushNumber
theorem implFlushNumber_c (b : Nat) (hb : b < 2 ^ 32) (w : World) : Calls Try.prog 30 #[.float .f32 b] w (RetF .f32 (flushC (cl .f32 b)) w) := by
  rcases h1 : cl .f32 b with _ | c
  · have hs : subC none = false := rfl
    go_enter Try.func30, Try.ntmps30
    go_wp2_with (go_at_call 55; refine (implIsSubnormal_c _ _).mono ?_; rintro e w1 ⟨n, rfl, rfl⟩)
    go_ret
    exact ⟨_, _, rfl, h1, rfl⟩
  · obtain ⟨rfl, -⟩ := cl_some h1
    by_cases h0 : rung FloatKind.f32.format b = 0
    · have hs := subC_zero h0
      have hf := Lib.hid (flushC_zero h0)
      go_enter Try.func30, Try.ntmps30
      go_wp2_with (go_at_call 55; refine (implIsSubnormal_c _ _).mono ?_; rintro e w1 ⟨n, rfl, rfl⟩)
      go_ret
      exact ⟨_, _, rfl, by rw [hf.out]; exact h1, rfl⟩
    · by_cases hr : rung FloatKind.f32.format b < 2 ^ 23
      · have hs := subC_true h0 hr
        have hf := Lib.hid (flushC_sub hr)
        obtain ⟨x, x1, x2, x3, x4, x5⟩ := widen_cl h1
        have X4 := Lib.hid (sign_digit x4 hb)
        obtain ⟨n1, n2⟩ := narrow_zero (b / 2 ^ 31) (Nat.div_lt_of_lt_mul (by omega))
        have N1 := Lib.hid n1
        have N2 := Lib.hid n2
        clear x2 x3 x4 x5 n1 n2 h0 hr
        go_enter Try.func30, Try.ntmps30
        go_wp2_with (first | (go_at_call 55; refine (implIsSubnormal_c _ _).mono ?_; rintro e w1 ⟨n, rfl, rfl⟩) | (refine wpList_widen _ _ _ _ rfl _ rfl Try.underlying38 (by rw [Try.underlying25]; rfl) rfl ?_; intro b1 n1 h1))
        have e1 : cl .f64 _ = some x := h1.trans (by rw [‹cl .f32 b = some b›]; exact x1)
        obtain ⟨rfl, -⟩ := cl_some e1
        refine (copysign0_c _ _).mono ?_
        rintro e w' ⟨n, rfl, rfl⟩
        rw [X4.out]
        go_wp2_with (refine wpList_narrow _ _ _ _ rfl _ rfl Try.underlying25 (by rw [Try.underlying38]; rfl) rfl (N1.out) ?_; intro b1 n1 h1)
        go_ret
        exact ⟨_, _, rfl, by rw [‹cl .f32 _ = narrow _›, N2.out, hf.out], rfl⟩
      · have hs := subC_false hr
        have hf := Lib.hid (flushC_not hr)
        go_enter Try.func30, Try.ntmps30
        go_wp2_with (go_at_call 55; refine (implIsSubnormal_c _ _).mono ?_; rintro e w1 ⟨n, rfl, rfl⟩)
        go_ret
        exact ⟨_, _, rfl, by rw [hf.out]; exact h1, rfl⟩

-- @has sameFloat
set_option maxHeartbeats 400000 in
theorem sameFloat_true (a b : Nat) (h : cl .f64 a = cl .f64 b) (w : World) :
    Calls Try.prog 31 #[.float .f64 a, .float .f64 b] w (RetV (.bool true) w) := by
  generalize hb : cl .f64 b = c at h
  rcases c with _ | c
  · go_enter Try.func31, Try.ntmps31
    go_wp2
    go_ret
    exact ⟨0, rfl, rfl⟩
  · have hs := ford_self h
    rcases h0 : ford .f64 (some c) (cl .f64 0) with _ | (_ | _ | _)
    all_goals
      go_enter Try.func31, Try.ntmps31
      go_wp2_with (refine wpList_farith _ _ _ _ _ _ rfl rfl _ _ _ rfl rfl rfl ?_; intro b1 n1 h1)
      go_ret
      first | exact ⟨0, rfl, rfl⟩ | exact ⟨_, rfl, rfl⟩

-- @has FnExactFlushNumber
theorem walk_FnExactFlushNumber (b : Nat) (hb : b < 2 ^ 32) (w : World) : Calls Try.prog 9 #[.float .f32 b] w fun e w' => e = .returned (.bool true) ∧ Below w.heap.size w w' := by
  go_enter Try.func9, Try.ntmps9
  go_wp2_with (first | (go_at_call 29; refine (specFlushNumber_c _ hb _).mono ?_; rintro e w1 ⟨r, n, rfl, hr, rfl⟩) | (go_at_call 30; refine (implFlushNumber_c _ hb _).mono ?_; rintro e w1 ⟨q, m, rfl, hq, rfl⟩) | (refine wpList_widen _ _ _ _ rfl _ rfl Try.underlying38 (by rw [Try.underlying25]; rfl) rfl ?_; intro b1 n1 h1) | (go_at_call 31; refine (sameFloat_true _ _ (by simp only [*]) _).mono ?_; rintro e w1 ⟨m1, rfl, rfl⟩))
  go_ret
  exact ⟨rfl, below_drewN (Below.refl _ _) _⟩

end Go.Proofs.Ytghcpeilbkgmaaa
