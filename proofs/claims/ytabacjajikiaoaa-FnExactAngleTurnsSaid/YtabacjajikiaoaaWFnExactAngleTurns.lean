/- Contracts of Go functions: what each returns, as a class of words, whatever the world. -/
import Derived.Test.YtabacjajikiaoaaAng
import Derived.Test.YtabacjajikiaoaaProg
import Derived.BigQuiet
import Derived.Deep.QuietTactic
import Derived.Deep.RegionHeld3
import Derived.Deep.DeepFit
import Derived.WalkSpells
import Derived.Lib.Hide
import Derived.WalkSmall
import Derived.Deep.DeepCutAuto
namespace Go.Proofs.Ytabacjajikiaoaa
open Go.RowKit Go.Fl

-- @has Float64bits
theorem f64bits_run (x : Nat) (w : World) : (callFunc 62 #[.float .f64 x]).run Try.prog w = .ok (.value (.int .u64 x)) w := by
  rw [run_callFunc_extern Try.func62 (e := Extern.MathFloatBits.float64bits) (by kernel_rfl) (by kernel_rfl) (by kernel_rfl) (by kernel_rfl)]; rfl

-- @has Float64frombits
theorem f64from_run (n : Int) (w : World) : (callFunc 56 #[.int .u64 n]).run Try.prog w = .ok (.value (.float .f64 n.toNat)) w := by
  rw [run_callFunc_extern Try.func56 (e := Extern.MathFloatBits.float64frombits) (by kernel_rfl) (by kernel_rfl) (by kernel_rfl) (by kernel_rfl)]; rfl

-- @has Abs
theorem abs_c (b : Nat) (w : World) : Calls Try.prog 43 #[.float .f64 b] w (RetF .f64 (absC (cl .f64 b)) w) := by
  have hx := f64bits_run
  have hy := f64from_run
  go_enter Try.func43, Try.ntmps43
  go_wp2
  go_ret
  exact ⟨_, 0, rfl, by rw [bits_andNot63]; exact cl_abs b, rfl⟩

-- @has sqrt
theorem sqrt_run (x : Nat) (w : World) : (callFunc 71 #[.float .f64 x]).run Try.prog w = ((Extern.MathSqrt.sqrt #[.float .f64 x]).run Try.prog w).andThen fun v w' => .ok (.value v) w' :=
  run_callFunc_extern Try.func71 (by kernel_rfl) (by kernel_rfl) (by kernel_rfl) (by kernel_rfl) _ _

-- @has Sqrt
theorem Sqrt_c (b : Nat) (w : World) : Calls Try.prog 64 #[.float .f64 b] w (RetF .f64 (fsqrt (cl .f64 b)) w) := by
  go_enter Try.func64, Try.ntmps64
  go_wp2_with (refine wpList_sqrt _ 71 sqrt_run _ _ rfl _ rfl rfl ?_; intro b1 n1 h1)
  go_ret
  exact ⟨_, _, rfl, by assumption, rfl⟩

-- @has specAngle
set_option maxHeartbeats 8000000 in
theorem specAngle_c (y x : Nat) (hy : isFin .f64 (cl .f64 y) = true) (hx : isFin .f64 (cl .f64 x) = true) (h0 : feq .f64 (cl .f64 x) (cl .f64 0) = true → feq .f64 (cl .f64 y) (cl .f64 0) = false) (w : World) : Calls Try.prog 63 #[.float .f64 y, .float .f64 x] w (RetF .f64 (angC (cl .f64 y) (cl .f64 x)) w) := by
  have tg := tst_gt .f64
  have tl := tst_lt .f64
  have te := tst_eq .f64
  have sy := sub_self_eq .f64 y
  have sx := sub_self_eq .f64 x
  rw [hy] at sy
  rw [hx] at sx
  have ny : (ford .f64 (fop .sub .f64 (cl .f64 y) (cl .f64 y)) (cl .f64 0) != some .eq) = false := by rw [bne, sy]; rfl
  have nx : (ford .f64 (fop .sub .f64 (cl .f64 x) (cl .f64 x)) (cl .f64 0) != some .eq) = false := by rw [bne, sx]; rfl
  clear sy sx
  cases hA : feq .f64 (cl .f64 x) (cl .f64 0)
  · clear h0
    cases hov : fgt .f64 (absC (cl .f64 y)) (absC (cl .f64 x))
    · go_enter Try.func63, Try.ntmps63
      go_wp2_with (first | (refine wpList_farith _ _ _ _ _ _ rfl rfl _ _ _ rfl rfl rfl ?_; intro b1 n1 h1) | (go_at_call 43; refine (abs_c _ _).mono ?_; rintro e w' ⟨r, n, rfl, hr, rfl⟩))
      go_loopw [8, 9] (fun t i wr => ∃ k n b : Nat, k ≤ 3 ∧ i = .int .i64 k ∧ t = .float .f64 b ∧ cl .f64 b = angT (fop .quo .f64 (absC (cl .f64 y)) (absC (cl .f64 x))) k ∧ wr = w.drewN n) (fun _ i _ => 3 - (intOf i).toNat)
      case atStart => exact ⟨0, _, _, Nat.zero_le _, rfl, rfl, by simp only [*]; rfl, rfl⟩
      case round =>
        obtain ⟨k, n, b, hk, rfl, rfl, hb, rfl⟩ := hrel
        by_cases hlt : k < 3
        · have hb' := Lib.hid hb
          clear hb
          go_wp2_with (first | (refine wpList_farith _ .mul _ _ _ _ rfl rfl _ _ _ rfl rfl rfl ?_; intro m1 n1 g1) | (refine wpList_farith _ .quo _ _ _ _ rfl rfl _ _ _ rfl rfl rfl ?_; intro m4 n4 g4) | (refine wpList_farith _ .add _ _ _ _ rfl rfl _ _ _ rfl rfl rfl ?_; intro m2 n2 g2) | (go_at_call 64; refine (Sqrt_c _ _).mono ?_; rintro e w' ⟨r, m3, rfl, g3, rfl⟩))
          go_roundw
          case rel => exact ⟨k + 1, _, _, by omega, by go_num, rfl, by rw [angT, ← hb'.out]; unfold angStep c1; simp only [*], rfl⟩
          case measure => simp [intOf]; omega
        · obtain rfl : k = 3 := by omega
          have hb' := Lib.hid hb
          clear hb
          go_wp2_with (refine wpList_farith _ _ _ _ _ _ rfl rfl _ _ _ rfl rfl rfl ?_; intro b1 n1 h1)
          have hu : cl .f64 _ = fop .mul .f64 (angT (fop .quo .f64 (absC (cl .f64 y)) (absC (cl .f64 x))) 3) (angT (fop .quo .f64 (absC (cl .f64 y)) (absC (cl .f64 x))) 3) := h1.trans (by rw [hb'.out])
          go_loopw [11, 12] (fun p i wr => ∃ j n b : Nat, j ≤ 8 ∧ i = .int .i64 (15 - 2 * (j : Int)) ∧ p = .float .f64 b ∧ cl .f64 b = angP (fop .mul .f64 (angT (fop .quo .f64 (absC (cl .f64 y)) (absC (cl .f64 x))) 3) (angT (fop .quo .f64 (absC (cl .f64 y)) (absC (cl .f64 x))) 3)) j ∧ wr = w.drewN n) (fun _ i _ => (intOf i + 2).toNat)
          case atStart => exact ⟨0, _, 0, Nat.zero_le _, rfl, rfl, rfl, rfl⟩
          case round =>
            obtain ⟨j, n, p, hj, rfl, rfl, hp, rfl⟩ := hrel
            have hp' := Lib.hid hp
            have hu' := Lib.hid hu
            clear hp hu
            by_cases hlt : j < 8
            · go_wp2_with (first | (refine wpList_farith _ .quo _ _ _ _ rfl rfl _ _ _ rfl rfl rfl ?_; intro m1 n1 g1) | (refine wpList_farith _ .mul _ _ _ _ rfl rfl _ _ _ rfl rfl rfl ?_; intro m2 n2 g2) | (refine wpList_farith _ .sub _ _ _ _ rfl rfl _ _ _ rfl rfl rfl ?_; intro m3 n3 g3))
              go_roundw
              case rel => exact ⟨j + 1, _, _, by omega, by go_num, rfl, by rw [angP, ← hp'.out, ← hu'.out]; unfold i2f c1; simp only [*], rfl⟩
              case measure => simp [intOf]; omega
            · obtain rfl : j = 8 := by omega
              go_wp2_with (refine wpList_farith _ _ _ _ _ _ rfl rfl _ _ _ rfl rfl rfl ?_; intro b1 n1 h1)
              all_goals
                go_ret
                refine ⟨_, _, rfl, ?_, rfl⟩
                unfold angC
                simp only [hov, if_false, Bool.false_eq_true]
                unfold angOut
                rw [← hp'.out, ← hb'.out]
                simp [angTurn, cl_neg, *]
    · go_enter Try.func63, Try.ntmps63
      go_wp2_with (first | (refine wpList_farith _ _ _ _ _ _ rfl rfl _ _ _ rfl rfl rfl ?_; intro b1 n1 h1) | (go_at_call 43; refine (abs_c _ _).mono ?_; rintro e w' ⟨r, n, rfl, hr, rfl⟩))
      go_loopw [8, 9] (fun t i wr => ∃ k n b : Nat, k ≤ 3 ∧ i = .int .i64 k ∧ t = .float .f64 b ∧ cl .f64 b = angT (fop .quo .f64 (absC (cl .f64 x)) (absC (cl .f64 y))) k ∧ wr = w.drewN n) (fun _ i _ => 3 - (intOf i).toNat)
      case atStart => exact ⟨0, _, _, Nat.zero_le _, rfl, rfl, by simp only [*]; rfl, rfl⟩
      case round =>
        obtain ⟨k, n, b, hk, rfl, rfl, hb, rfl⟩ := hrel
        by_cases hlt : k < 3
        · have hb' := Lib.hid hb
          clear hb
          go_wp2_with (first | (refine wpList_farith _ .mul _ _ _ _ rfl rfl _ _ _ rfl rfl rfl ?_; intro m1 n1 g1) | (refine wpList_farith _ .quo _ _ _ _ rfl rfl _ _ _ rfl rfl rfl ?_; intro m4 n4 g4) | (refine wpList_farith _ .add _ _ _ _ rfl rfl _ _ _ rfl rfl rfl ?_; intro m2 n2 g2) | (go_at_call 64; refine (Sqrt_c _ _).mono ?_; rintro e w' ⟨r, m3, rfl, g3, rfl⟩))
          go_roundw
          case rel => exact ⟨k + 1, _, _, by omega, by go_num, rfl, by rw [angT, ← hb'.out]; unfold angStep c1; simp only [*], rfl⟩
          case measure => simp [intOf]; omega
        · obtain rfl : k = 3 := by omega
          have hb' := Lib.hid hb
          clear hb
          go_wp2_with (refine wpList_farith _ _ _ _ _ _ rfl rfl _ _ _ rfl rfl rfl ?_; intro b1 n1 h1)
          have hu : cl .f64 _ = fop .mul .f64 (angT (fop .quo .f64 (absC (cl .f64 x)) (absC (cl .f64 y))) 3) (angT (fop .quo .f64 (absC (cl .f64 x)) (absC (cl .f64 y))) 3) := h1.trans (by rw [hb'.out])
          go_loopw [11, 12] (fun p i wr => ∃ j n b : Nat, j ≤ 8 ∧ i = .int .i64 (15 - 2 * (j : Int)) ∧ p = .float .f64 b ∧ cl .f64 b = angP (fop .mul .f64 (angT (fop .quo .f64 (absC (cl .f64 x)) (absC (cl .f64 y))) 3) (angT (fop .quo .f64 (absC (cl .f64 x)) (absC (cl .f64 y))) 3)) j ∧ wr = w.drewN n) (fun _ i _ => (intOf i + 2).toNat)
          case atStart => exact ⟨0, _, 0, Nat.zero_le _, rfl, rfl, rfl, rfl⟩
          case round =>
            obtain ⟨j, n, p, hj, rfl, rfl, hp, rfl⟩ := hrel
            have hp' := Lib.hid hp
            have hu' := Lib.hid hu
            clear hp hu
            by_cases hlt : j < 8
            · go_wp2_with (first | (refine wpList_farith _ .quo _ _ _ _ rfl rfl _ _ _ rfl rfl rfl ?_; intro m1 n1 g1) | (refine wpList_farith _ .mul _ _ _ _ rfl rfl _ _ _ rfl rfl rfl ?_; intro m2 n2 g2) | (refine wpList_farith _ .sub _ _ _ _ rfl rfl _ _ _ rfl rfl rfl ?_; intro m3 n3 g3))
              go_roundw
              case rel => exact ⟨j + 1, _, _, by omega, by go_num, rfl, by rw [angP, ← hp'.out, ← hu'.out]; unfold i2f c1; simp only [*], rfl⟩
              case measure => simp [intOf]; omega
            · obtain rfl : j = 8 := by omega
              go_wp2_with (refine wpList_farith _ _ _ _ _ _ rfl rfl _ _ _ rfl rfl rfl ?_; intro b1 n1 h1)
              all_goals
                go_ret
                refine ⟨_, _, rfl, ?_, rfl⟩
                unfold angC
                simp only [hov, if_true]
                unfold angOut
                rw [← hp'.out, ← hb'.out]
                simp [angTurn, cl_neg, *]
  · replace h0 := h0 hA
    cases hov : fgt .f64 (absC (cl .f64 y)) (absC (cl .f64 x))
    · go_enter Try.func63, Try.ntmps63
      go_wp2_with (first | (refine wpList_farith _ _ _ _ _ _ rfl rfl _ _ _ rfl rfl rfl ?_; intro b1 n1 h1) | (go_at_call 43; refine (abs_c _ _).mono ?_; rintro e w' ⟨r, n, rfl, hr, rfl⟩))
      go_loopw [8, 9] (fun t i wr => ∃ k n b : Nat, k ≤ 3 ∧ i = .int .i64 k ∧ t = .float .f64 b ∧ cl .f64 b = angT (fop .quo .f64 (absC (cl .f64 y)) (absC (cl .f64 x))) k ∧ wr = w.drewN n) (fun _ i _ => 3 - (intOf i).toNat)
      case atStart => exact ⟨0, _, _, Nat.zero_le _, rfl, rfl, by simp only [*]; rfl, rfl⟩
      case round =>
        obtain ⟨k, n, b, hk, rfl, rfl, hb, rfl⟩ := hrel
        by_cases hlt : k < 3
        · have hb' := Lib.hid hb
          clear hb
          go_wp2_with (first | (refine wpList_farith _ .mul _ _ _ _ rfl rfl _ _ _ rfl rfl rfl ?_; intro m1 n1 g1) | (refine wpList_farith _ .quo _ _ _ _ rfl rfl _ _ _ rfl rfl rfl ?_; intro m4 n4 g4) | (refine wpList_farith _ .add _ _ _ _ rfl rfl _ _ _ rfl rfl rfl ?_; intro m2 n2 g2) | (go_at_call 64; refine (Sqrt_c _ _).mono ?_; rintro e w' ⟨r, m3, rfl, g3, rfl⟩))
          go_roundw
          case rel => exact ⟨k + 1, _, _, by omega, by go_num, rfl, by rw [angT, ← hb'.out]; unfold angStep c1; simp only [*], rfl⟩
          case measure => simp [intOf]; omega
        · obtain rfl : k = 3 := by omega
          have hb' := Lib.hid hb
          clear hb
          go_wp2_with (refine wpList_farith _ _ _ _ _ _ rfl rfl _ _ _ rfl rfl rfl ?_; intro b1 n1 h1)
          have hu : cl .f64 _ = fop .mul .f64 (angT (fop .quo .f64 (absC (cl .f64 y)) (absC (cl .f64 x))) 3) (angT (fop .quo .f64 (absC (cl .f64 y)) (absC (cl .f64 x))) 3) := h1.trans (by rw [hb'.out])
          go_loopw [11, 12] (fun p i wr => ∃ j n b : Nat, j ≤ 8 ∧ i = .int .i64 (15 - 2 * (j : Int)) ∧ p = .float .f64 b ∧ cl .f64 b = angP (fop .mul .f64 (angT (fop .quo .f64 (absC (cl .f64 y)) (absC (cl .f64 x))) 3) (angT (fop .quo .f64 (absC (cl .f64 y)) (absC (cl .f64 x))) 3)) j ∧ wr = w.drewN n) (fun _ i _ => (intOf i + 2).toNat)
          case atStart => exact ⟨0, _, 0, Nat.zero_le _, rfl, rfl, rfl, rfl⟩
          case round =>
            obtain ⟨j, n, p, hj, rfl, rfl, hp, rfl⟩ := hrel
            have hp' := Lib.hid hp
            have hu' := Lib.hid hu
            clear hp hu
            by_cases hlt : j < 8
            · go_wp2_with (first | (refine wpList_farith _ .quo _ _ _ _ rfl rfl _ _ _ rfl rfl rfl ?_; intro m1 n1 g1) | (refine wpList_farith _ .mul _ _ _ _ rfl rfl _ _ _ rfl rfl rfl ?_; intro m2 n2 g2) | (refine wpList_farith _ .sub _ _ _ _ rfl rfl _ _ _ rfl rfl rfl ?_; intro m3 n3 g3))
              go_roundw
              case rel => exact ⟨j + 1, _, _, by omega, by go_num, rfl, by rw [angP, ← hp'.out, ← hu'.out]; unfold i2f c1; simp only [*], rfl⟩
              case measure => simp [intOf]; omega
            · obtain rfl : j = 8 := by omega
              go_wp2_with (refine wpList_farith _ _ _ _ _ _ rfl rfl _ _ _ rfl rfl rfl ?_; intro b1 n1 h1)
              all_goals
                go_ret
                refine ⟨_, _, rfl, ?_, rfl⟩
                unfold angC
                simp only [hov, if_false, Bool.false_eq_true]
                unfold angOut
                rw [← hp'.out, ← hb'.out]
                simp [angTurn, cl_neg, *]
    · go_enter Try.func63, Try.ntmps63
      go_wp2_with (first | (refine wpList_farith _ _ _ _ _ _ rfl rfl _ _ _ rfl rfl rfl ?_; intro b1 n1 h1) | (go_at_call 43; refine (abs_c _ _).mono ?_; rintro e w' ⟨r, n, rfl, hr, rfl⟩))
      go_loopw [8, 9] (fun t i wr => ∃ k n b : Nat, k ≤ 3 ∧ i = .int .i64 k ∧ t = .float .f64 b ∧ cl .f64 b = angT (fop .quo .f64 (absC (cl .f64 x)) (absC (cl .f64 y))) k ∧ wr = w.drewN n) (fun _ i _ => 3 - (intOf i).toNat)
      case atStart => exact ⟨0, _, _, Nat.zero_le _, rfl, rfl, by simp only [*]; rfl, rfl⟩
      case round =>
        obtain ⟨k, n, b, hk, rfl, rfl, hb, rfl⟩ := hrel
        by_cases hlt : k < 3
        · have hb' := Lib.hid hb
          clear hb
          go_wp2_with (first | (refine wpList_farith _ .mul _ _ _ _ rfl rfl _ _ _ rfl rfl rfl ?_; intro m1 n1 g1) | (refine wpList_farith _ .quo _ _ _ _ rfl rfl _ _ _ rfl rfl rfl ?_; intro m4 n4 g4) | (refine wpList_farith _ .add _ _ _ _ rfl rfl _ _ _ rfl rfl rfl ?_; intro m2 n2 g2) | (go_at_call 64; refine (Sqrt_c _ _).mono ?_; rintro e w' ⟨r, m3, rfl, g3, rfl⟩))
          go_roundw
          case rel => exact ⟨k + 1, _, _, by omega, by go_num, rfl, by rw [angT, ← hb'.out]; unfold angStep c1; simp only [*], rfl⟩
          case measure => simp [intOf]; omega
        · obtain rfl : k = 3 := by omega
          have hb' := Lib.hid hb
          clear hb
          go_wp2_with (refine wpList_farith _ _ _ _ _ _ rfl rfl _ _ _ rfl rfl rfl ?_; intro b1 n1 h1)
          have hu : cl .f64 _ = fop .mul .f64 (angT (fop .quo .f64 (absC (cl .f64 x)) (absC (cl .f64 y))) 3) (angT (fop .quo .f64 (absC (cl .f64 x)) (absC (cl .f64 y))) 3) := h1.trans (by rw [hb'.out])
          go_loopw [11, 12] (fun p i wr => ∃ j n b : Nat, j ≤ 8 ∧ i = .int .i64 (15 - 2 * (j : Int)) ∧ p = .float .f64 b ∧ cl .f64 b = angP (fop .mul .f64 (angT (fop .quo .f64 (absC (cl .f64 x)) (absC (cl .f64 y))) 3) (angT (fop .quo .f64 (absC (cl .f64 x)) (absC (cl .f64 y))) 3)) j ∧ wr = w.drewN n) (fun _ i _ => (intOf i + 2).toNat)
          case atStart => exact ⟨0, _, 0, Nat.zero_le _, rfl, rfl, rfl, rfl⟩
          case round =>
            obtain ⟨j, n, p, hj, rfl, rfl, hp, rfl⟩ := hrel
            have hp' := Lib.hid hp
            have hu' := Lib.hid hu
            clear hp hu
            by_cases hlt : j < 8
            · go_wp2_with (first | (refine wpList_farith _ .quo _ _ _ _ rfl rfl _ _ _ rfl rfl rfl ?_; intro m1 n1 g1) | (refine wpList_farith _ .mul _ _ _ _ rfl rfl _ _ _ rfl rfl rfl ?_; intro m2 n2 g2) | (refine wpList_farith _ .sub _ _ _ _ rfl rfl _ _ _ rfl rfl rfl ?_; intro m3 n3 g3))
              go_roundw
              case rel => exact ⟨j + 1, _, _, by omega, by go_num, rfl, by rw [angP, ← hp'.out, ← hu'.out]; unfold i2f c1; simp only [*], rfl⟩
              case measure => simp [intOf]; omega
            · obtain rfl : j = 8 := by omega
              go_wp2_with (refine wpList_farith _ _ _ _ _ _ rfl rfl _ _ _ rfl rfl rfl ?_; intro b1 n1 h1)
              all_goals
                go_ret
                refine ⟨_, _, rfl, ?_, rfl⟩
                unfold angC
                simp only [hov, if_true]
                unfold angOut
                rw [← hp'.out, ← hb'.out]
                simp [angTurn, cl_neg, *]

-- @has NaN
theorem nan_c (w : World) : Calls Try.prog 34 #[] w (RetV (.float .f64 9221120237041090561) w) := by
  have hy := f64from_run
  go_enter Try.func34, Try.ntmps34
  go_wp2
  go_ret
  exact ⟨0, rfl, rfl⟩

-- @has specAngleNaN
theorem specAngle_nan (y x : Nat) (h : isFin .f64 (cl .f64 y) = false ∨ isFin .f64 (cl .f64 x) = false) (w : World) : Calls Try.prog 63 #[.float .f64 y, .float .f64 x] w (RetF .f64 none w) := by
  have sy := sub_self_eq .f64 y
  have sx := sub_self_eq .f64 x
  have ny : (ford .f64 (fop .sub .f64 (cl .f64 y) (cl .f64 y)) (cl .f64 0) != some .eq) = !isFin .f64 (cl .f64 y) := by rw [bne, sy]
  have nx : (ford .f64 (fop .sub .f64 (cl .f64 x) (cl .f64 x)) (cl .f64 0) != some .eq) = !isFin .f64 (cl .f64 x) := by rw [bne, sx]
  clear sy sx
  cases hy : isFin .f64 (cl .f64 y)
  · clear h
    go_enter Try.func63, Try.ntmps63
    go_wp2_with (first | (refine wpList_farith _ _ _ _ _ _ rfl rfl _ _ _ rfl rfl rfl ?_; intro b1 n1 h1) | (go_at_call 34; refine (nan_c _).mono ?_; rintro e w1 ⟨n, rfl, rfl⟩))
    go_ret
    exact ⟨_, _, rfl, by decide +kernel, rfl⟩
  · have hx : isFin .f64 (cl .f64 x) = false := h.resolve_left (by rw [hy]; decide)
    clear h
    go_enter Try.func63, Try.ntmps63
    go_wp2_with (first | (refine wpList_farith _ _ _ _ _ _ rfl rfl _ _ _ rfl rfl rfl ?_; intro b1 n1 h1) | (go_at_call 34; refine (nan_c _).mono ?_; rintro e w1 ⟨n, rfl, rfl⟩))
    go_ret
    exact ⟨_, _, rfl, by decide +kernel, rfl⟩
theorem specAngle_zero (y x : Nat) (hy : isFin .f64 (cl .f64 y) = true) (hx : isFin .f64 (cl .f64 x) = true) (h0 : feq .f64 (cl .f64 x) (cl .f64 0) = true) (h1 : feq .f64 (cl .f64 y) (cl .f64 0) = true) (w : World) :
    Calls Try.prog 63 #[.float .f64 y, .float .f64 x] w (RetF .f64 (cl .f64 0) w) := by
  have te := tst_eq .f64
  have sy := sub_self_eq .f64 y
  have sx := sub_self_eq .f64 x
  rw [hy] at sy
  rw [hx] at sx
  have ny : (ford .f64 (fop .sub .f64 (cl .f64 y) (cl .f64 y)) (cl .f64 0) != some .eq) = false := by rw [bne, sy]; rfl
  have nx : (ford .f64 (fop .sub .f64 (cl .f64 x) (cl .f64 x)) (cl .f64 0) != some .eq) = false := by rw [bne, sx]; rfl
  clear sy sx
  go_enter Try.func63, Try.ntmps63
  go_wp2_with (refine wpList_farith _ _ _ _ _ _ rfl rfl _ _ _ rfl rfl rfl ?_; intro b1 n1 h1)
  go_ret
  exact ⟨_, _, rfl, rfl, rfl⟩

-- @has l01NarrowRoot
theorem l01Narrow_c (b : Nat) (hf : fits (cl .f64 b) = true) (w : World) : Calls Try.prog 54 #[.float .f64 b] w (RetF .f32 (narrow (cl .f64 b)) w) := by
  have H := Lib.hid hf
  clear hf
  go_enter Try.func54, Try.ntmps54
  go_wp2_with (refine wpList_narrow _ _ _ _ rfl _ rfl Try.underlying22 (by rw [Try.underlying25]; rfl) rfl (H.out) ?_; intro b1 n1 h1)
  go_ret
  exact ⟨_, _, rfl, by assumption, rfl⟩

-- @has specAngleTurns
theorem l01Angle_c (y x : Nat) (w : World) : Calls Try.prog 45 #[.float .f32 y, .float .f32 x] w (RetF .f32 (angR (cl .f32 y) (cl .f32 x)) w) := by
  have fy := Lib.hid (isFin_widen y)
  have fx := Lib.hid (isFin_widen x)
  have ey := Lib.hid (feq_widen y)
  have ex := Lib.hid (feq_widen x)
  unfold angR
  by_cases hf : isFin .f32 (cl .f32 y) = true ∧ isFin .f32 (cl .f32 x) = true
  · rw [if_pos (by rw [hf.1, hf.2]; rfl)]
    by_cases h0 : feq .f32 (cl .f32 x) (cl .f32 0) = true ∧ feq .f32 (cl .f32 y) (cl .f32 0) = true
    · rw [if_pos (by rw [h0.1, h0.2]; rfl)]
      have H := Lib.hid hf
      have Z := Lib.hid h0
      clear hf h0
      go_enter Try.func45, Try.ntmps45
      go_wp2_with (refine wpList_widen _ _ _ _ rfl _ rfl Try.underlying25 (by rw [Try.underlying22]; rfl) rfl ?_; intro b1 n1 h1)
      have g1 := Lib.hid ‹cl .f64 _ = widen (cl .f32 y)›
      have g2 := Lib.hid ‹cl .f64 _ = widen (cl .f32 x)›
      refine (specAngle_zero _ _ (by rw [g1.out, fy.out]; exact H.out.1) (by rw [g2.out, fx.out]; exact H.out.2) (by rw [g2.out, ex.out]; exact Z.out.1) (by rw [g1.out, ey.out]; exact Z.out.2) _).mono ?_
      rintro e w1 ⟨r, n, rfl, hr, rfl⟩
      go_wp2_with (go_at_call 54; refine (l01Narrow_c _ (by rw [hr]; decide +kernel) _).mono ?_; rintro e w1 ⟨q, m, rfl, hq, rfl⟩)
      go_ret
      exact ⟨_, _, rfl, by rw [hq, hr]; decide +kernel, rfl⟩
    · have h0' : (feq .f32 (cl .f32 x) (cl .f32 0) && feq .f32 (cl .f32 y) (cl .f32 0)) = false := by simpa using h0
      rw [h0', if_neg (by decide)]
      have F := Lib.hid (ang_fits y x hf.1 hf.2 h0)
      have H := Lib.hid hf
      have Z := Lib.hid h0
      clear hf h0 h0'
      go_enter Try.func45, Try.ntmps45
      go_wp2_with (refine wpList_widen _ _ _ _ rfl _ rfl Try.underlying25 (by rw [Try.underlying22]; rfl) rfl ?_; intro b1 n1 h1)
      have g1 := Lib.hid ‹cl .f64 _ = widen (cl .f32 y)›
      have g2 := Lib.hid ‹cl .f64 _ = widen (cl .f32 x)›
      refine (specAngle_c _ _ (by rw [g1.out, fy.out]; exact H.out.1) (by rw [g2.out, fx.out]; exact H.out.2) (by rw [g1.out, g2.out, ex.out, ey.out]; exact fun a => by simpa using fun b => Z.out ⟨a, b⟩) _).mono ?_
      rintro e w1 ⟨r, n, rfl, hr, rfl⟩
      rw [g1.out, g2.out] at hr
      go_wp2_with (go_at_call 54; refine (l01Narrow_c _ (by rw [hr]; exact F.out) _).mono ?_; rintro e w1 ⟨q, m, rfl, hq, rfl⟩)
      go_ret
      exact ⟨_, _, rfl, by rw [hq, hr], rfl⟩
  · have hf' : (isFin .f32 (cl .f32 y) && isFin .f32 (cl .f32 x)) = false := by simpa using hf
    rw [hf', if_neg (by decide)]
    have hf2 : isFin .f32 (cl .f32 y) = false ∨ isFin .f32 (cl .f32 x) = false := Bool.and_eq_false_iff.1 hf'
    have H := Lib.hid hf2
    clear hf hf' hf2
    go_enter Try.func45, Try.ntmps45
    go_wp2_with (refine wpList_widen _ _ _ _ rfl _ rfl Try.underlying25 (by rw [Try.underlying22]; rfl) rfl ?_; intro b1 n1 h1)
    have g1 := Lib.hid ‹cl .f64 _ = widen (cl .f32 y)›
    have g2 := Lib.hid ‹cl .f64 _ = widen (cl .f32 x)›
    refine (specAngle_nan _ _ (by rw [g1.out, g2.out, fy.out, fx.out]; exact H.out) _).mono ?_
    rintro e w1 ⟨r, n, rfl, hr, rfl⟩
    go_wp2_with (go_at_call 54; refine (l01Narrow_c _ (by rw [hr]; rfl) _).mono ?_; rintro e w1 ⟨q, m, rfl, hq, rfl⟩)
    go_ret
    exact ⟨_, _, rfl, by rw [hq, hr]; rfl, rfl⟩
theorem specAngleTurns_c (y x : Nat) (w : World) : Calls Try.prog 20 #[.float .f32 y, .float .f32 x] w (RetF .f32 (angR (cl .f32 y) (cl .f32 x)) w) := by
  go_enter Try.func20, Try.ntmps20
  go_wp2_with (go_at_call 45; refine (l01Angle_c _ _ _).mono ?_; rintro e w1 ⟨r, n, rfl, hr, rfl⟩)
  go_ret
  exact ⟨_, _, rfl, hr, rfl⟩

-- @has implAngle
set_option maxHeartbeats 8000000 in
theorem implAngle_c (y x : Nat) (w : World) : Calls Try.prog 46 #[.float .f64 y, .float .f64 x] w (RetF .f64 (angC (cl .f64 y) (cl .f64 x)) w) := by
  have tg := tst_gt .f64
  have tl := tst_lt .f64
  cases hov : fgt .f64 (absC (cl .f64 y)) (absC (cl .f64 x))
  · go_enter Try.func46, Try.ntmps46
    go_wp2_with (first | (refine wpList_farith _ _ _ _ _ _ rfl rfl _ _ _ rfl rfl rfl ?_; intro b1 n1 h1) | (go_at_call 43; refine (abs_c _ _).mono ?_; rintro e w' ⟨r, n, rfl, hr, rfl⟩))
    go_loopw [7, 25] (fun t i wr => ∃ k n b : Nat, k ≤ 3 ∧ i = .int .i64 k ∧ t = .float .f64 b ∧ cl .f64 b = angT (fop .quo .f64 (absC (cl .f64 y)) (absC (cl .f64 x))) k ∧ wr = w.drewN n) (fun _ i _ => 3 - (intOf i).toNat)
    case atStart => exact ⟨0, _, _, Nat.zero_le _, rfl, rfl, by simp only [*]; rfl, rfl⟩
    case round =>
      obtain ⟨k, n, b, hk, rfl, rfl, hb, rfl⟩ := hrel
      by_cases hlt : k < 3
      · have hb' := Lib.hid hb
        clear hb
        go_wp2_with (first | (refine wpList_farith _ .mul _ _ _ _ rfl rfl _ _ _ rfl rfl rfl ?_; intro m1 n1 g1) | (refine wpList_farith _ .quo _ _ _ _ rfl rfl _ _ _ rfl rfl rfl ?_; intro m4 n4 g4) | (refine wpList_farith _ .add _ _ _ _ rfl rfl _ _ _ rfl rfl rfl ?_; intro m2 n2 g2) | (go_at_call 64; refine (Sqrt_c _ _).mono ?_; rintro e w' ⟨r, m3, rfl, g3, rfl⟩))
        go_roundw
        case rel => exact ⟨k + 1, _, _, by omega, by go_num, rfl, by rw [angT, ← hb'.out]; unfold angStep c1; simp only [*], rfl⟩
        case measure => simp [intOf]; omega
      · obtain rfl : k = 3 := by omega
        have hb' := Lib.hid hb
        clear hb
        go_wp2_with (refine wpList_farith _ _ _ _ _ _ rfl rfl _ _ _ rfl rfl rfl ?_; intro b1 n1 h1)
        have hu : cl .f64 _ = fop .mul .f64 (angT (fop .quo .f64 (absC (cl .f64 y)) (absC (cl .f64 x))) 3) (angT (fop .quo .f64 (absC (cl .f64 y)) (absC (cl .f64 x))) 3) := h1.trans (by rw [hb'.out])
        go_loopw [9, 10] (fun p i wr => ∃ j n b : Nat, j ≤ 8 ∧ i = .int .i64 (15 - 2 * (j : Int)) ∧ p = .float .f64 b ∧ cl .f64 b = angP (fop .mul .f64 (angT (fop .quo .f64 (absC (cl .f64 y)) (absC (cl .f64 x))) 3) (angT (fop .quo .f64 (absC (cl .f64 y)) (absC (cl .f64 x))) 3)) j ∧ wr = w.drewN n) (fun _ i _ => (intOf i + 2).toNat)
        case atStart => exact ⟨0, _, 0, Nat.zero_le _, rfl, rfl, rfl, rfl⟩
        case round =>
          obtain ⟨j, n, p, hj, rfl, rfl, hp, rfl⟩ := hrel
          have hp' := Lib.hid hp
          have hu' := Lib.hid hu
          clear hp hu
          by_cases hlt : j < 8
          · go_wp2_with (first | (refine wpList_farith _ .quo _ _ _ _ rfl rfl _ _ _ rfl rfl rfl ?_; intro m1 n1 g1) | (refine wpList_farith _ .mul _ _ _ _ rfl rfl _ _ _ rfl rfl rfl ?_; intro m2 n2 g2) | (refine wpList_farith _ .sub _ _ _ _ rfl rfl _ _ _ rfl rfl rfl ?_; intro m3 n3 g3))
            go_roundw
            case rel => exact ⟨j + 1, _, _, by omega, by go_num, rfl, by rw [angP, ← hp'.out, ← hu'.out]; unfold i2f c1; simp only [*], rfl⟩
            case measure => simp [intOf]; omega
          · obtain rfl : j = 8 := by omega
            go_wp2_with (refine wpList_farith _ _ _ _ _ _ rfl rfl _ _ _ rfl rfl rfl ?_; intro b1 n1 h1)
            all_goals
              go_ret
              refine ⟨_, _, rfl, ?_, rfl⟩
              unfold angC
              simp only [hov, if_false, Bool.false_eq_true]
              unfold angOut
              rw [← hp'.out, ← hb'.out]
              simp [angTurn, cl_neg, *]
  · go_enter Try.func46, Try.ntmps46
    go_wp2_with (first | (refine wpList_farith _ _ _ _ _ _ rfl rfl _ _ _ rfl rfl rfl ?_; intro b1 n1 h1) | (go_at_call 43; refine (abs_c _ _).mono ?_; rintro e w' ⟨r, n, rfl, hr, rfl⟩))
    go_loopw [7, 25] (fun t i wr => ∃ k n b : Nat, k ≤ 3 ∧ i = .int .i64 k ∧ t = .float .f64 b ∧ cl .f64 b = angT (fop .quo .f64 (absC (cl .f64 x)) (absC (cl .f64 y))) k ∧ wr = w.drewN n) (fun _ i _ => 3 - (intOf i).toNat)
    case atStart => exact ⟨0, _, _, Nat.zero_le _, rfl, rfl, by simp only [*]; rfl, rfl⟩
    case round =>
      obtain ⟨k, n, b, hk, rfl, rfl, hb, rfl⟩ := hrel
      by_cases hlt : k < 3
      · have hb' := Lib.hid hb
        clear hb
        go_wp2_with (first | (refine wpList_farith _ .mul _ _ _ _ rfl rfl _ _ _ rfl rfl rfl ?_; intro m1 n1 g1) | (refine wpList_farith _ .quo _ _ _ _ rfl rfl _ _ _ rfl rfl rfl ?_; intro m4 n4 g4) | (refine wpList_farith _ .add _ _ _ _ rfl rfl _ _ _ rfl rfl rfl ?_; intro m2 n2 g2) | (go_at_call 64; refine (Sqrt_c _ _).mono ?_; rintro e w' ⟨r, m3, rfl, g3, rfl⟩))
        go_roundw
        case rel => exact ⟨k + 1, _, _, by omega, by go_num, rfl, by rw [angT, ← hb'.out]; unfold angStep c1; simp only [*], rfl⟩
        case measure => simp [intOf]; omega
      · obtain rfl : k = 3 := by omega
        have hb' := Lib.hid hb
        clear hb
        go_wp2_with (refine wpList_farith _ _ _ _ _ _ rfl rfl _ _ _ rfl rfl rfl ?_; intro b1 n1 h1)
        have hu : cl .f64 _ = fop .mul .f64 (angT (fop .quo .f64 (absC (cl .f64 x)) (absC (cl .f64 y))) 3) (angT (fop .quo .f64 (absC (cl .f64 x)) (absC (cl .f64 y))) 3) := h1.trans (by rw [hb'.out])
        go_loopw [9, 10] (fun p i wr => ∃ j n b : Nat, j ≤ 8 ∧ i = .int .i64 (15 - 2 * (j : Int)) ∧ p = .float .f64 b ∧ cl .f64 b = angP (fop .mul .f64 (angT (fop .quo .f64 (absC (cl .f64 x)) (absC (cl .f64 y))) 3) (angT (fop .quo .f64 (absC (cl .f64 x)) (absC (cl .f64 y))) 3)) j ∧ wr = w.drewN n) (fun _ i _ => (intOf i + 2).toNat)
        case atStart => exact ⟨0, _, 0, Nat.zero_le _, rfl, rfl, rfl, rfl⟩
        case round =>
          obtain ⟨j, n, p, hj, rfl, rfl, hp, rfl⟩ := hrel
          have hp' := Lib.hid hp
          have hu' := Lib.hid hu
          clear hp hu
          by_cases hlt : j < 8
          · go_wp2_with (first | (refine wpList_farith _ .quo _ _ _ _ rfl rfl _ _ _ rfl rfl rfl ?_; intro m1 n1 g1) | (refine wpList_farith _ .mul _ _ _ _ rfl rfl _ _ _ rfl rfl rfl ?_; intro m2 n2 g2) | (refine wpList_farith _ .sub _ _ _ _ rfl rfl _ _ _ rfl rfl rfl ?_; intro m3 n3 g3))
            go_roundw
            case rel => exact ⟨j + 1, _, _, by omega, by go_num, rfl, by rw [angP, ← hp'.out, ← hu'.out]; unfold i2f c1; simp only [*], rfl⟩
            case measure => simp [intOf]; omega
          · obtain rfl : j = 8 := by omega
            go_wp2_with (refine wpList_farith _ _ _ _ _ _ rfl rfl _ _ _ rfl rfl rfl ?_; intro b1 n1 h1)
            all_goals
              go_ret
              refine ⟨_, _, rfl, ?_, rfl⟩
              unfold angC
              simp only [hov, if_true]
              unfold angOut
              rw [← hp'.out, ← hb'.out]
              simp [angTurn, cl_neg, *]

-- @has IsNaN
theorem isNaN_c (b : Nat) (w : World) : Calls Try.prog 66 #[.float .f64 b] w (RetV (.bool (cl .f64 b).isNone) w) := by
  rcases h : cl .f64 b with _ | c
  · go_enter Try.func66, Try.ntmps66
    go_wp2
    go_ret
    exact ⟨0, rfl, rfl⟩
  · have hs := ford_self h
    go_enter Try.func66, Try.ntmps66
    go_wp2
    go_ret
    exact ⟨0, rfl, rfl⟩

-- @has IsInf
theorem isInf_c (b c : Nat) (h : cl .f64 b = some c) (w : World) : Calls Try.prog 67 #[.float .f64 b, .int .i64 0] w (RetV (.bool (!isFin .f64 (some c))) w) := by
  have h2 := isInf_eq b c h
  rw [maxFin_eq] at h2
  go_enter Try.func67, Try.ntmps67
  go_wp2_with (go_at_call 43; refine (abs_c _ _).mono ?_; rintro e w' ⟨r, n, rfl, hr, rfl⟩)
  go_ret
  exact ⟨_, rfl, rfl⟩

-- @has finite
theorem finite_c (b : Nat) (w : World) : Calls Try.prog 48 #[.float .f64 b] w (RetV (.bool (isFin .f64 (cl .f64 b))) w) := by
  rcases h : cl .f64 b with _ | c
  · go_enter Try.func48, Try.ntmps48
    go_wp2_with (go_at_call 66; refine (isNaN_c _ _).mono ?_; rintro e w' ⟨n, rfl, rfl⟩)
    go_ret
    exact ⟨_, rfl, rfl⟩
  · cases hf : isFin .f64 (some c)
    all_goals
      go_enter Try.func48, Try.ntmps48
      go_wp2_with (first | (go_at_call 66; refine (isNaN_c _ _).mono ?_; rintro e w' ⟨n, rfl, rfl⟩) | (go_at_call 67; refine (isInf_c _ c h _).mono ?_; rintro e w' ⟨n, rfl, rfl⟩))
      go_ret
      exact ⟨_, rfl, rfl⟩

-- @has implIsFinite
theorem implIsFinite_c (b : Nat) (w : World) : Calls Try.prog 36 #[.float .f32 b] w (RetV (.bool (isFin .f32 (cl .f32 b))) w) := by
  have hw := isFin_widen b
  go_enter Try.func36, Try.ntmps36
  go_wp2_with (first | (refine wpList_widen _ _ _ _ rfl _ rfl Try.underlying25 (by rw [Try.underlying22]; rfl) rfl ?_; intro b1 n1 h1) | (go_at_call 48; refine (finite_c _ _).mono ?_; rintro e w' ⟨n, rfl, rfl⟩))
  go_ret
  exact ⟨_, rfl, rfl⟩

-- @has implAngleTurns
theorem implAngleTurns_c (y x : Nat) (w : World) : Calls Try.prog 21 #[.float .f32 y, .float .f32 x] w (RetF .f32 (angR (cl .f32 y) (cl .f32 x)) w) := by
  have te := tst_eq .f32
  unfold angR
  cases fy : isFin .f32 (cl .f32 y)
  · go_enter Try.func21, Try.ntmps21
    go_wp2_with (first | (go_at_call 36; refine (implIsFinite_c _ _).mono ?_; rintro e w1 ⟨n, rfl, rfl⟩) | (go_at_call 34; refine (nan_c _).mono ?_; rintro e w1 ⟨n, rfl, rfl⟩) | (refine wpList_narrow _ _ _ _ rfl _ rfl Try.underlying22 (by rw [Try.underlying25]; rfl) rfl (by decide +kernel) ?_; intro b1 n1 h1))
    go_ret
    exact ⟨_, _, rfl, by rw [h1]; decide +kernel, rfl⟩
  cases fx : isFin .f32 (cl .f32 x)
  · go_enter Try.func21, Try.ntmps21
    go_wp2_with (first | (go_at_call 36; refine (implIsFinite_c _ _).mono ?_; rintro e w1 ⟨n, rfl, rfl⟩) | (go_at_call 34; refine (nan_c _).mono ?_; rintro e w1 ⟨n, rfl, rfl⟩) | (refine wpList_narrow _ _ _ _ rfl _ rfl Try.underlying22 (by rw [Try.underlying25]; rfl) rfl (by decide +kernel) ?_; intro b1 n1 h1))
    go_ret
    exact ⟨_, _, rfl, by rw [h1]; decide +kernel, rfl⟩
  rw [if_pos (by rfl)]
  cases zx : feq .f32 (cl .f32 x) (cl .f32 0)
  all_goals cases zy : feq .f32 (cl .f32 y) (cl .f32 0)
  case true.true =>
    go_enter Try.func21, Try.ntmps21
    go_wp2_with (go_at_call 36; refine (implIsFinite_c _ _).mono ?_; rintro e w1 ⟨n, rfl, rfl⟩)
    go_ret
    exact ⟨_, _, rfl, rfl, rfl⟩
  all_goals
    rw [if_neg (by decide)]
    have F := Lib.hid (ang_fits y x fy fx (by rw [zx, zy]; decide))
    go_enter Try.func21, Try.ntmps21
    go_wp2_with (first | (go_at_call 36; refine (implIsFinite_c _ _).mono ?_; rintro e w1 ⟨n, rfl, rfl⟩) | (refine wpList_widen _ _ _ _ rfl _ rfl Try.underlying25 (by rw [Try.underlying22]; rfl) rfl ?_; intro b1 n1 h1) | (go_at_call 46; refine (implAngle_c _ _ _).mono ?_; rintro e w1 ⟨r, n, rfl, hr, rfl⟩) | (refine wpList_narrow _ _ _ _ rfl _ rfl Try.underlying22 (by rw [Try.underlying25]; rfl) rfl (by simp only [*]; exact F.out) ?_; intro b1 n1 h1))
    go_ret
    exact ⟨_, _, rfl, by simp only [*], rfl⟩

-- @has sameFloat
set_option maxHeartbeats 400000 in
theorem sameFloat_true (a b : Nat) (h : cl .f64 a = cl .f64 b) (w : World) :
    Calls Try.prog 13 #[.float .f64 a, .float .f64 b] w (RetV (.bool true) w) := by
  generalize hb : cl .f64 b = c at h
  rcases c with _ | c
  · go_enter Try.func13, Try.ntmps13
    go_wp2
    go_ret
    exact ⟨0, rfl, rfl⟩
  · have hs := ford_self h
    rcases h0 : ford .f64 (some c) (cl .f64 0) with _ | (_ | _ | _)
    all_goals
      go_enter Try.func13, Try.ntmps13
      go_wp2_with (refine wpList_farith _ _ _ _ _ _ rfl rfl _ _ _ rfl rfl rfl ?_; intro b1 n1 h1)
      go_ret
      first | exact ⟨0, rfl, rfl⟩ | exact ⟨_, rfl, rfl⟩

-- @has FnExactAngleTurns
theorem walk_FnExactAngleTurns (y : Nat) (_hy : y < 2 ^ 32) (x : Nat) (_hx : x < 2 ^ 32) (w : World) : Calls Try.prog 7 #[.float .f32 y, .float .f32 x] w fun e w' => e = .returned (.bool true) ∧ Below w.heap.size w w' := by
  go_enter Try.func7, Try.ntmps7
  go_wp2_with (first | (go_at_call 20; refine (specAngleTurns_c _ _ _).mono ?_; rintro e w1 ⟨r, n, rfl, hr, rfl⟩) | (go_at_call 21; refine (implAngleTurns_c _ _ _).mono ?_; rintro e w1 ⟨q, m, rfl, hq, rfl⟩) | (refine wpList_widen _ _ _ _ rfl _ rfl Try.underlying25 (by rw [Try.underlying22]; rfl) rfl ?_; intro b1 n1 h1) | (go_at_call 13; refine (sameFloat_true _ _ (by simp only [*]) _).mono ?_; rintro e w1 ⟨m1, rfl, rfl⟩))
  go_ret
  exact ⟨rfl, below_drewN (Below.refl _ _) _⟩

end Go.Proofs.Ytabacjajikiaoaa
