/- Contracts of Go functions: what each returns, as a class of words, whatever the world. -/
import Derived.Test.YtabacjajikiaoaaPow
import Derived.Test.YtabacjajikiaoaaProg
import Derived.BigQuiet
import Derived.Deep.QuietTactic
import Derived.Deep.RegionHeld3
import Derived.Deep.DeepFit
import Derived.WalkSpells
import Derived.Lib.Hide
import Derived.WalkSmall
import Derived.Deep.DeepCutAuto
namespace Go.Proofs.Ytabacjajikiaoaa
open Go.RowKit Go.Fl

-- @has implExp
set_option maxHeartbeats 1000000 in
theorem implExp_c (a : Nat) (h : expOk (cl .f32 a) = true) (w : World) : Calls Try.prog 15 #[.float .f32 a] w (RetF .f32 (expR (cl .f32 a)) w) := by
  have tg := tst_gt .f32
  have tl := tst_lt .f32
  unfold expOk at h
  simp only [Bool.and_eq_true, Bool.not_eq_true'] at h
  obtain ⟨q1, q2, q3⟩ := h
  have FT := Lib.hid q3
  clear q3
  obtain ⟨T, hT⟩ : ∃ T, T = expT (widen (cl .f32 a)) := ⟨_, rfl⟩
  have TT := Lib.hid hT
  have e : expR (cl .f32 a) = narrow (expS (expP T 12) 8) := by rw [hT]; rfl
  have FF := Lib.hid (by rw [← show expC (widen (cl .f32 a)) = expS (expP T 12) 8 by rw [hT]; rfl]; exact FT.out : fits (expS (expP T 12) 8) = true)
  rw [e]
  clear hT e FT
  go_enter Try.func15, Try.ntmps15
  go_wp2_with (first | (refine wpList_widen _ _ _ _ rfl _ rfl Try.underlying25 (by rw [Try.underlying22]; rfl) rfl ?_; intro v nv gv) | (refine wpList_farith _ .quo _ _ _ _ rfl rfl _ _ _ rfl rfl rfl ?_; intro t nt gt; (have ht : cl .f64 t = T := by (rw [gt, gv, TT.out]; rfl)); clear gt))
  have ht' := Lib.hid ht
  clear ht gv
  go_loopw [4, 5] (fun p i wr => ∃ j n q : Nat, j ≤ 12 ∧ i = .int .i64 (12 - (j : Int)) ∧ p = .float .f64 q ∧ cl .f64 q = expP T j ∧ wr = w.drewN n) (fun _ i _ => (intOf i + 2).toNat)
  case atStart => exact ⟨0, _, _, Nat.zero_le _, rfl, rfl, rfl, rfl⟩
  case round =>
    obtain ⟨j, n, q, hj, rfl, rfl, hq, rfl⟩ := hrel
    have hp' := Lib.hid hq
    clear hq
    by_cases hlt : j < 12
    · go_wp2_with (first | (refine wpList_farith _ .mul _ _ _ _ rfl rfl _ _ _ rfl rfl rfl ?_; intro m1 n1 g1) | (refine wpList_farith _ .quo _ _ _ _ rfl rfl _ _ _ rfl rfl rfl ?_; intro m2 n2 g2) | (refine wpList_farith _ .add _ _ _ _ rfl rfl _ _ _ rfl rfl rfl ?_; intro m3 n3 g3))
      go_roundw
      case rel => exact ⟨j + 1, _, _, by omega, by go_num, rfl, by rw [expP, ← hp'.out, ← ht'.out]; unfold i2f; simp only [*], rfl⟩
      case measure => simp [intOf]; omega
    · have h12 : (12 : Int) - (j : Int) = 0 := by omega
      rw [h12]
      obtain rfl : j = 12 := by omega
      go_wp2_with fail
      go_loopw [4, 28] (fun p i wr => ∃ k n q : Nat, k ≤ 8 ∧ i = .int .i64 (k : Int) ∧ p = .float .f64 q ∧ cl .f64 q = expS (expP T 12) k ∧ wr = w.drewN n) (fun _ i _ => 8 - (intOf i).toNat)
      case atStart => exact ⟨0, _, _, Nat.zero_le _, rfl, rfl, hp'.out, rfl⟩
      case round =>
        obtain ⟨k, n2, q2, hk, rfl, rfl, hq2, rfl⟩ := hrel
        have hs' := Lib.hid hq2
        clear hq2
        by_cases hlt2 : k < 8
        · go_wp2_with (refine wpList_farith _ .mul _ _ _ _ rfl rfl _ _ _ rfl rfl rfl ?_; intro m1 n1 g1)
          go_roundw
          case rel => exact ⟨k + 1, _, _, by omega, by go_num, rfl, by rw [expS, ← hs'.out]; exact g1, rfl⟩
          case measure => simp [intOf]; omega
        · obtain rfl : k = 8 := by omega
          go_wp2_with (refine wpList_narrow _ _ _ _ rfl _ rfl Try.underlying22 (by rw [Try.underlying25]; rfl) rfl (by rw [hs'.out]; exact FF.out) ?_; intro b1 n1 h1)
          all_goals
            go_ret
            exact ⟨_, _, rfl, by rw [h1, hs'.out], rfl⟩
theorem exp_k {c : Option Nat} (m : Nat) (h : cl .f32 m = c) (ho : expOk c = true) (w : World) : Calls Try.prog 15 #[.float .f32 m] w (RetF .f32 (expR c) w) := by
  rw [← h] at ho ⊢
  exact implExp_c _ ho _

-- @has b10
theorem b10Long_c (a a' : Option Addr) (len cap len' cap' : Nat) (hl : len ≤ maxLen) (hl' : len' ≤ maxLen) (w : World) : Calls Try.prog 25 #[.slice a len cap, .slice a' len' cap'] w (RetV (.bool (decide (1048576 < len) || decide (1048576 < len'))) w) := by
  unfold maxLen at hl hl'
  by_cases h1 : 1048576 < len
  · have g1 : (1048576 : Int) < len := by omega
    rw [decide_eq_true h1]
    go_enter Try.func25, Try.ntmps25
    go_wp2
    all_goals
      go_ret
      exact ⟨0, rfl, rfl⟩
  · have g1 : ¬ (1048576 : Int) < len := by omega
    rw [decide_eq_false h1]
    by_cases h2 : 1048576 < len'
    · have g2 : (1048576 : Int) < len' := by omega
      rw [decide_eq_true h2]
      go_enter Try.func25, Try.ntmps25
      go_wp2
      all_goals
        go_ret
        exact ⟨0, rfl, rfl⟩
    · have g2 : ¬ (1048576 : Int) < len' := by omega
      rw [decide_eq_false h2]
      go_enter Try.func25, Try.ntmps25
      go_wp2
      all_goals
        go_ret
        exact ⟨0, rfl, rfl⟩
theorem b10At_c (a : Option Addr) (len cap : Nat) (Z : Nat → Int) (w : World) (h : SlI .u8 w a len Z) (hZ : ∀ j, j < len → 0 ≤ Z j ∧ Z j ≤ 255) (i : Nat) (m : Int) (hi : i < 1000) (hm : 2 ≤ m) (hm2 : m ≤ 1000000) :
    Calls Try.prog 26 #[.slice a len cap, .int .i64 (i : Int), .int .i64 m] w fun e w' => ∃ v : Nat, (v : Int) < m ∧ RetV (.int .i64 (v : Int)) w e w' := by
  have hl := h.1
  unfold maxLen at hl
  have g0 : ¬ m ≤ 1 := by omega
  have gz : ¬ m = 0 := by omega
  have tm : ∀ z : Int, 0 ≤ z % m ∧ z % m < m := fun z => ⟨Int.emod_nonneg _ (by omega), Int.emod_lt_of_pos _ (by omega)⟩
  by_cases hlt : i < len
  · obtain ⟨g, off, rfl, hc⟩ := h.2 (by omega)
    have c0 := hc i hlt
    obtain ⟨z0, z1⟩ := hZ i hlt
    have hmod := tm (Z i)
    clear hc h tm
    go_enter Try.func26, Try.ntmps26
    go_wp2
    go_ret
    exact ⟨(Z i % m).toNat, by omega, 0, by rw [Int.toNat_of_nonneg hmod.1]; rfl, rfl⟩
  · have g1 : ¬ (i : Int) < len := by omega
    have hmod := tm ((i : Int) * 37 + 11)
    clear h tm
    go_enter Try.func26, Try.ntmps26
    go_wp2
    go_ret
    exact ⟨(((i : Int) * 37 + 11) % m).toNat, by omega, 0, by rw [Int.toNat_of_nonneg hmod.1]; rfl, rfl⟩
theorem b10Gap_c (a b : Nat) (w : World) : Calls Try.prog 27 #[.float .f64 a, .float .f64 b] w (RetF .f64 (gapC (cl .f64 a) (cl .f64 b)) w) := by
  have tl := tst_lt .f64
  unfold gapC
  cases q : flt .f64 (cl .f64 a) (cl .f64 b)
  all_goals
    go_enter Try.func27, Try.ntmps27
    go_wp2_with (refine wpList_farith _ _ _ _ _ _ rfl rfl _ _ _ rfl rfl rfl ?_; intro b1 n1 h1)
    go_ret
    exact ⟨_, _, rfl, h1, rfl⟩

-- @has naturalLog
set_option maxHeartbeats 4000000 in
theorem naturalLog_c (r : Nat) (h : LogOk r) (w : World) : Calls Try.prog 57 #[.float .f64 r] w (RetF .f64 (logC r) w) := by
  have tg := tst_gt .f64
  have tl := tst_lt .f64
  have te := tst_eq .f64
  obtain ⟨SE, hSE⟩ : ∃ f, f = stepE := ⟨_, rfl⟩
  obtain ⟨SD, hSD⟩ : ∃ f, f = stepD := ⟨_, rfl⟩
  obtain ⟨TP, hTP⟩ : ∃ n, n = top64 := ⟨_, rfl⟩
  have fE0 : Hid (r = SE r 0) := Lib.hid (by rw [hSE]; exact stepE_zero r)
  have fEe : Hid (SE r (logE r) = logA r) := Lib.hid (by rw [hSE]; exact stepE_end r)
  have fD0 : Hid (logA r = SD r 0) := Lib.hid (by rw [hSD]; exact stepD_zero r)
  have fDe : Hid (SD r (logD r) = logW r) := Lib.hid (by rw [hSD]; exact stepD_end r)
  have fge := Lib.hid fun k hk => stepE_ge (k := k) h hk
  have flt := Lib.hid fun k hk => stepD_lt (k := k) h hk
  have fhalf := Lib.hid fun k b hk hb => stepE_half (k := k) (b := b) h hk hb
  have fdbl := Lib.hid fun k b hk hb => stepD_dbl (k := k) (b := b) h hk hb
  have fdown := Lib.hid fun k hk => stepE_down (k := k) h hk
  have fup := Lib.hid fun k hk => stepD_up (k := k) h hk
  rw [← hSE] at fge fhalf fdown
  rw [← hSD] at flt fdbl fup
  rw [← hTP] at fup
  clear hSE hSD hTP
  go_enter Try.func57, Try.ntmps57
  go_wp2_with (refine wpList_farith _ _ _ _ _ _ rfl rfl _ _ _ rfl rfl rfl ?_; intro b1 n1 h1)
  go_loopw [0, 3] (fun y e wr => ∃ k n b : Nat, k ≤ logE r ∧ y = .float .f64 (SE r k) ∧ e = .float .f64 b ∧ cl .f64 b = i2f ((k : Nat) : Int) ∧ wr = w.drewN n) (fun y _ _ => fbits y)
  case atStart => exact ⟨0, 0, 0, Nat.zero_le _, congrArg (Value.float .f64) fE0.out, rfl, zero_cl, rfl⟩
  case round =>
    obtain ⟨k, n, b, hk, rfl, rfl, hb, rfl⟩ := hrel
    have ht := fge.out k hk
    by_cases hlt : k < logE r
    · rw [decide_eq_true hlt] at ht
      have hb' := Lib.hid hb; clear hb
      go_wp2_with (first | (refine wpList_farith _ .quo _ _ _ _ rfl rfl _ _ _ rfl rfl rfl ?_; intro m0 n0 g0) | (refine wpList_farith _ .add _ _ _ _ rfl rfl _ _ _ rfl rfl rfl ?_; intro m1 n1 g1))
      obtain rfl := fhalf.out k _ hlt g0
      go_roundw
      case rel => exact ⟨k + 1, _, _, hlt, rfl, rfl, by rw [g1, hb'.out]; exact i2f_up1 h hlt, rfl⟩
      case measure => exact fdown.out k hlt
    · obtain rfl : k = logE r := by omega
      rw [decide_eq_false hlt] at ht
      have hb' := Lib.hid hb; clear hb
      go_wp2_with fail
      go_loopw [0, 3] (fun y e wr => ∃ k n b : Nat, k ≤ logD r ∧ y = .float .f64 (SD r k) ∧ e = .float .f64 b ∧ cl .f64 b = i2f ((logE r : Int) - ((k : Nat) : Int)) ∧ wr = w.drewN n) (fun y _ _ => TP - fbits y)
      case atStart => exact ⟨0, _, b, Nat.zero_le _, congrArg (Value.float .f64) (fEe.out.trans fD0.out), rfl, by rw [hb'.out]; exact congrArg i2f (by omega), rfl⟩
      case round =>
        clear ht
        obtain ⟨k, n, b2, hk, rfl, rfl, hb2, rfl⟩ := hrel
        have ht := flt.out k hk
        by_cases hlt : k < logD r
        · rw [decide_eq_true hlt] at ht
          have hb2' := Lib.hid hb2; clear hb2
          go_wp2_with (first | (refine wpList_farith _ .mul _ _ _ _ rfl rfl _ _ _ rfl rfl rfl ?_; intro m0 n0 g0) | (refine wpList_farith _ .sub _ _ _ _ rfl rfl _ _ _ rfl rfl rfl ?_; intro m1 n1 g1))
          obtain rfl := fdbl.out k _ hlt g0
          go_roundw
          case rel => exact ⟨k + 1, _, _, hlt, rfl, rfl, by rw [g1, hb2'.out]; exact i2f_sub1 h hlt, rfl⟩
          case measure => exact fup.out k hlt
        · obtain rfl : k = logD r := by omega
          rw [decide_eq_false hlt] at ht
          have hb2' := Lib.hid hb2; clear hb2
          have hW : SD r (logD r) = logW r := fDe.out
          rw [hW] at ht
          go_wp2_with (first | (refine wpList_farith _ .sub _ _ _ _ rfl rfl _ _ _ rfl rfl rfl ?_; intro m0 n0 g0) | (refine wpList_farith _ .add _ _ _ _ rfl rfl _ _ _ rfl rfl rfl ?_; intro m1 n1 g1) | (refine wpList_farith _ .quo _ _ _ _ rfl rfl _ _ _ rfl rfl rfl ?_; intro m2 n2 g2) | (refine wpList_farith _ .mul _ _ _ _ rfl rfl _ _ _ rfl rfl rfl ?_; intro m3 n3 g3))
          (try simp only [hW] at g0)
          (try simp only [hW] at g1)
          have hS : cl .f64 m2 = logS (cl .f64 (logW r)) := by rw [g2, g0, g1]; rfl
          have hU : cl .f64 m3 = fop .mul .f64 (logS (cl .f64 (logW r))) (logS (cl .f64 (logW r))) := by rw [g3, hS]
          have hS' := Lib.hid hS
          have hU' := Lib.hid hU
          clear hS hU g0 g1 g2 g3
          go_loopw [6, 7] (fun q i wr => ∃ j n b : Nat, j ≤ 13 ∧ i = .int .i64 (25 - 2 * (j : Int)) ∧ q = .float .f64 b ∧ cl .f64 b = logP (fop .mul .f64 (logS (cl .f64 (logW r))) (logS (cl .f64 (logW r)))) j ∧ wr = w.drewN n) (fun _ i _ => (intOf i + 2).toNat)
          case atStart => exact ⟨0, _, 0, Nat.zero_le _, rfl, rfl, rfl, rfl⟩
          case round =>
            obtain ⟨j, n, q, hj, rfl, rfl, hq, rfl⟩ := hrel
            have hq' := Lib.hid hq
            clear hq
            by_cases hlt : j < 13
            · go_wp2_with (first | (refine wpList_farith _ .quo _ _ _ _ rfl rfl _ _ _ rfl rfl rfl ?_; intro m0 n0 g0) | (refine wpList_farith _ .mul _ _ _ _ rfl rfl _ _ _ rfl rfl rfl ?_; intro m1 n1 g1) | (refine wpList_farith _ .add _ _ _ _ rfl rfl _ _ _ rfl rfl rfl ?_; intro m2 n2 g2))
              go_roundw
              case rel => exact ⟨j + 1, _, _, by omega, by go_num, rfl, by rw [logP, ← hq'.out, ← hU'.out]; unfold i2f c1; simp only [*], rfl⟩
              case measure => simp [intOf]; omega
            · obtain rfl : j = 13 := by omega
              go_wp2_with (refine wpList_farith _ _ _ _ _ _ rfl rfl _ _ _ rfl rfl rfl ?_; intro b1 n1 h1)
              go_ret
              refine ⟨_, _, rfl, ?_, rfl⟩
              unfold logC logOut
              rw [← hb2'.out, ← hq'.out, ← hS'.out]
              simp only [*]

-- @has logarithm
theorem logarithm_c (a d : Nat) (hd : widen (cl .f32 a) = some d) (h : LogOk d) (w : World) : Calls Try.prog 37 #[.float .f32 a] w (RetF .f64 (logC d) w) := by
  have H := Lib.hid hd
  clear hd
  go_enter Try.func37, Try.ntmps37
  go_wp2_with (refine wpList_widen _ _ _ _ rfl _ rfl Try.underlying25 (by rw [Try.underlying22]; rfl) rfl ?_; intro b1 n1 h1)
  rw [H.out] at h1
  obtain ⟨rfl, -⟩ := cl_some h1
  refine (naturalLog_c _ h _).mono ?_
  rintro e w1 ⟨r, n, rfl, hr, rfl⟩
  go_wp2_with fail
  go_ret
  exact ⟨_, _, rfl, hr, rfl⟩

-- @has Float64frombits
theorem f64from_run (n : Int) (w : World) : (callFunc 56 #[.int .u64 n]).run Try.prog w = .ok (.value (.float .f64 n.toNat)) w := by
  rw [run_callFunc_extern Try.func56 (e := Extern.MathFloatBits.float64frombits) (by kernel_rfl) (by kernel_rfl) (by kernel_rfl) (by kernel_rfl)]; rfl

-- @has Inf
theorem infNeg_c (w : World) : Calls Try.prog 35 #[.int .i64 (-1)] w (RetV (.float .f64 18442240474082181120) w) := by
  have hy := f64from_run
  go_enter Try.func35, Try.ntmps35
  go_wp2
  go_ret
  exact ⟨0, rfl, rfl⟩

-- @has NaN
theorem nan_c (w : World) : Calls Try.prog 34 #[] w (RetV (.float .f64 9221120237041090561) w) := by
  have hy := f64from_run
  go_enter Try.func34, Try.ntmps34
  go_wp2
  go_ret
  exact ⟨0, rfl, rfl⟩

-- @has IsNaN
theorem isNaN_c (b : Nat) (w : World) : Calls Try.prog 66 #[.float .f64 b] w (RetV (.bool (cl .f64 b).isNone) w) := by
  rcases h : cl .f64 b with _ | c
  · go_enter Try.func66, Try.ntmps66
    go_wp2
    go_ret
    exact ⟨0, rfl, rfl⟩
  · have hs := ford_self h
    go_enter Try.func66, Try.ntmps66
    go_wp2
    go_ret
    exact ⟨0, rfl, rfl⟩

-- @has Float64bits
theorem f64bits_run (x : Nat) (w : World) : (callFunc 62 #[.float .f64 x]).run Try.prog w = .ok (.value (.int .u64 x)) w := by
  rw [run_callFunc_extern Try.func62 (e := Extern.MathFloatBits.float64bits) (by kernel_rfl) (by kernel_rfl) (by kernel_rfl) (by kernel_rfl)]; rfl

-- @has Abs
theorem abs_c (b : Nat) (w : World) : Calls Try.prog 43 #[.float .f64 b] w (RetF .f64 (absC (cl .f64 b)) w) := by
  have hx := f64bits_run
  have hy := f64from_run
  go_enter Try.func43, Try.ntmps43
  go_wp2
  go_ret
  exact ⟨_, 0, rfl, by rw [bits_andNot63]; exact cl_abs b, rfl⟩

-- @has IsInf
theorem isInf_c (b c : Nat) (h : cl .f64 b = some c) (w : World) : Calls Try.prog 67 #[.float .f64 b, .int .i64 0] w (RetV (.bool (!isFin .f64 (some c))) w) := by
  have h2 := isInf_eq b c h
  rw [maxFin_eq] at h2
  go_enter Try.func67, Try.ntmps67
  go_wp2_with (go_at_call 43; refine (abs_c _ _).mono ?_; rintro e w' ⟨r, n, rfl, hr, rfl⟩)
  go_ret
  exact ⟨_, rfl, rfl⟩

-- @has finite
theorem finite_c (b : Nat) (w : World) : Calls Try.prog 48 #[.float .f64 b] w (RetV (.bool (isFin .f64 (cl .f64 b))) w) := by
  rcases h : cl .f64 b with _ | c
  · go_enter Try.func48, Try.ntmps48
    go_wp2_with (go_at_call 66; refine (isNaN_c _ _).mono ?_; rintro e w' ⟨n, rfl, rfl⟩)
    go_ret
    exact ⟨_, rfl, rfl⟩
  · cases hf : isFin .f64 (some c)
    all_goals
      go_enter Try.func48, Try.ntmps48
      go_wp2_with (first | (go_at_call 66; refine (isNaN_c _ _).mono ?_; rintro e w' ⟨n, rfl, rfl⟩) | (go_at_call 67; refine (isInf_c _ c h _).mono ?_; rintro e w' ⟨n, rfl, rfl⟩))
      go_ret
      exact ⟨_, rfl, rfl⟩

-- @has implIsFinite
theorem implIsFinite_c (b : Nat) (w : World) : Calls Try.prog 36 #[.float .f32 b] w (RetV (.bool (isFin .f32 (cl .f32 b))) w) := by
  have hw := isFin_widen b
  go_enter Try.func36, Try.ntmps36
  go_wp2_with (first | (refine wpList_widen _ _ _ _ rfl _ rfl Try.underlying25 (by rw [Try.underlying22]; rfl) rfl ?_; intro b1 n1 h1) | (go_at_call 48; refine (finite_c _ _).mono ?_; rintro e w' ⟨n, rfl, rfl⟩))
  go_ret
  exact ⟨_, rfl, rfl⟩

-- @has implLogNumber
theorem implLogNumber_c (a : Nat) (w : World) : Calls Try.prog 12 #[.float .f32 a] w (RetF .f32 (logR (cl .f32 a)) w) := by
  have tl := tst_lt .f32
  have te := tst_eq .f32
  rcases hc : cl .f32 a with _ | c
  · go_enter Try.func12, Try.ntmps12
    go_wp2_with (first | (go_at_call 34; refine (nan_c _).mono ?_; rintro e w1 ⟨n, rfl, rfl⟩) | (refine wpList_narrow _ _ _ _ rfl _ rfl Try.underlying22 (by rw [Try.underlying25]; rfl) rfl (by decide +kernel) ?_; intro b1 n1 h1))
    go_ret
    exact ⟨_, _, rfl, by rw [h1]; decide +kernel, rfl⟩
  have hs := ford_self hc
  have hn : (ford .f32 (some c) (some c) != some .eq) = false := by rw [hs]; rfl
  have hR : logR (some c) = logR (some c) := rfl
  unfold logR at hR ⊢
  cases q1 : flt .f32 (some c) (cl .f32 0)
  case true =>
    go_enter Try.func12, Try.ntmps12
    go_wp2_with (first | (go_at_call 34; refine (nan_c _).mono ?_; rintro e w1 ⟨n, rfl, rfl⟩) | (refine wpList_narrow _ _ _ _ rfl _ rfl Try.underlying22 (by rw [Try.underlying25]; rfl) rfl (by decide +kernel) ?_; intro b1 n1 h1))
    go_ret
    exact ⟨_, _, rfl, by rw [h1]; decide +kernel, rfl⟩
  cases q2 : feq .f32 (some c) (cl .f32 0)
  case true =>
    go_enter Try.func12, Try.ntmps12
    go_wp2_with (first | (go_at_call 35; refine (infNeg_c _).mono ?_; rintro e w1 ⟨n, rfl, rfl⟩) | (refine wpList_narrow _ _ _ _ rfl _ rfl Try.underlying22 (by rw [Try.underlying25]; rfl) rfl (by decide +kernel) ?_; intro b1 n1 h1))
    all_goals
      go_ret
      exact ⟨_, _, rfl, by rw [h1], rfl⟩
  cases q3 : isFin .f32 (some c)
  case false =>
    go_enter Try.func12, Try.ntmps12
    go_wp2_with (go_at_call 36; refine (implIsFinite_c _ _).mono ?_; rintro e w1 ⟨n, rfl, rfl⟩)
    all_goals
      go_ret
      exact ⟨_, _, rfl, hc, rfl⟩
  obtain ⟨d, hd, hL⟩ := log_fin hc q1 q2 q3
  have F := Lib.hid (fits_of_le (LeE.mono (logC_le hL) (by decide : 1065 ≤ 1150)))
  have hD := Lib.hid hd
  have hd' : widen (cl .f32 a) = some d := by rw [hc]; exact hd
  have hD' := Lib.hid hd'
  clear hd hd' hR
  go_enter Try.func12, Try.ntmps12
  go_wp2_with (first | (go_at_call 36; refine (implIsFinite_c _ _).mono ?_; rintro e w1 ⟨n, rfl, rfl⟩) | (go_at_call 37; refine (logarithm_c _ _ hD'.out hL _).mono ?_; rintro e w1 ⟨r, n, rfl, hr, rfl⟩) | (refine wpList_narrow _ _ _ _ rfl _ rfl Try.underlying22 (by rw [Try.underlying25]; rfl) rfl (by rw [hr]; exact F.out) ?_; intro b1 n1 h1))
  all_goals
    go_ret
    exact ⟨_, _, rfl, by rw [h1, hr, hD.out, Option.bind_some], rfl⟩

-- @has FnPowers
theorem log_k {c : Option Nat} (m : Nat) (h : cl .f32 m = c) (w : World) : Calls Try.prog 12 #[.float .f32 m] w (RetF .f32 (logR c) w) := by
  rw [← h]
  exact implLogNumber_c _ _
set_option maxHeartbeats 2000000 in
theorem walk_FnPowers (w : World) (a : Option Addr) (len cap : Nat) (zs : List Int) (h : IsInts .u8 w a len cap zs) (a' : Option Addr) (len' cap' : Nat) (zs' : List Int) (h' : IsInts .u8 w a' len' cap' zs') :
    Calls Try.prog 9 #[.slice a len cap, .slice a' len' cap'] w fun e w' => e = .returned (.bool true) ∧ Below w.heap.size w w' := by
  have hC := SlI.of h
  have hM := SlI.of h'
  have zC := Lib.hid fun j hj => wf_u8 (h.wf j hj)
  have zM := Lib.hid fun j hj => wf_u8 (h'.wf j hj)
  have l1 := hC.1
  have l2 := hM.1
  clear h h'
  cases hlong : (decide (1048576 < len) || decide (1048576 < len'))
  case true =>
    have HL := Lib.hid hlong
    go_enter Try.func9, Try.ntmps9
    go_wp2_with (go_at_call 25; refine (b10Long_c _ _ _ _ _ _ l1 l2 _).mono ?_; rw [HL.out]; rintro e w1 ⟨n0, rfl, rfl⟩)
    all_goals
      go_ret
      exact ⟨rfl, below_drewN (Below.refl _ _) _⟩
  have HL := Lib.hid hlong
  go_enter Try.func9, Try.ntmps9
  go_wp2_with (first | (go_at_call 25; refine (b10Long_c _ _ _ _ _ _ l1 l2 _).mono ?_; rw [HL.out]; rintro e w1 ⟨n0, rfl, rfl⟩) | (go_at_call 26; refine (b10At_c _ _ _ _ _ (SlI.keep hC (by repeat (first | with_reducible exact Gro.refl _ | with_reducible apply Gro.drewN | with_reducible apply Gro.drew | with_reducible apply Gro.alloc | with_reducible refine Gro.setCell ?_ (by dsimp only; omega) _ | refine Gro.trans ?_ (by assumption)))) zC.out 0 65 (by decide) (by decide) (by decide)).mono ?_; rintro e w1 ⟨n, hn, n1, rfl, rfl⟩; refine Hid.out ?_))
  refine Lib.hid ?_
  have hn' : n < 65 := by omega
  go_wp2_with (first | (refine wpList_farith _ .quo _ _ _ _ rfl rfl _ _ _ rfl rfl rfl ?_; intro x nx gx; (have hx : cl .f32 x = powX n := gx); clear gx) | (go_at_call 26; refine (b10At_c _ _ _ _ _ (SlI.keep hM (by repeat (first | with_reducible exact Gro.refl _ | with_reducible apply Gro.drewN | with_reducible apply Gro.drew | with_reducible apply Gro.alloc | with_reducible refine Gro.setCell ?_ (by dsimp only; omega) _ | refine Gro.trans ?_ (by assumption)))) zM.out 0 65 (by decide) (by decide) (by decide)).mono ?_; rintro e w1 ⟨m, hm, n2, rfl, rfl⟩; refine Hid.out ?_))
  refine Lib.hid ?_
  have hm' : m < 65 := by omega
  have HX := Lib.hid hx
  clear hx hC hM zC zM
  have F0 := Lib.hid (pow_sum hn' hm')
  have K1 := Lib.hid (pow_ok hn')
  have K2 := Lib.hid (pow_ok hm')
  have K3 := Lib.hid (pow_ok2 hn' hm')
  go_wp2_with (first | (refine wpList_farith _ .quo _ _ _ _ rfl rfl _ _ _ rfl rfl rfl ?_; intro y ny gy; (have hy : cl .f32 y = powX m := gy); clear gy) | (go_at_call 15; refine (exp_k (c := powX n) _ (by with_reducible exact HX.out) K1.out.1 _).mono ?_; rintro e w1 ⟨p, np, rfl, hp, rfl⟩) | (go_at_call 15; refine (exp_k (c := powX m) _ (by with_reducible exact hy) K2.out.1 _).mono ?_; rintro e w1 ⟨q, nq, rfl, hq, rfl⟩) | (refine wpList_farith _ .add _ _ _ _ rfl rfl _ _ _ rfl rfl rfl ?_; intro s ns gs; (have hs : cl .f32 s = powY (n + m) := by (rw [gs, HX.out, hy, F0.out])); clear gs) | (go_at_call 15; refine (exp_k (c := powY (n + m)) _ (by with_reducible exact hs) K3.out _).mono ?_; rintro e w1 ⟨r, nr, rfl, hr, rfl⟩; refine Hid.out ?_))
  refine Lib.hid ?_
  have hx := HX.out
  have F1 := pow_log hn'
  have F2 := pow_mul hn' hm'
  have F3 := K1.out.2
  obtain ⟨z1, z2, z3⟩ := pow_zero
  have Z1 := Lib.hid z1
  have tg := tst_gt .f32
  have te := tst_eq .f32
  have tl := tst_lt .f64
  clear hs hy HX K1 K2 K3 F0 z1
  have hp' := Lib.hid hp
  go_wp2_with (first | (go_at_call 12; refine (log_k (c := expR (powX n)) _ (by with_reducible exact hp'.out) _).mono ?_; rintro e w1 ⟨l, nl, rfl, hl, rfl⟩) | (refine wpList_widen _ _ _ _ rfl _ rfl Try.underlying25 (by rw [Try.underlying22]; rfl) rfl ?_; intro b1 n1 h1) | (refine wpList_farith _ .mul _ _ _ _ rfl rfl _ _ _ rfl rfl rfl ?_; intro u1 u2 u3) | (go_at_call 27; refine (b10Gap_c _ _ _).mono ?_; rintro e w1 ⟨g, ng, rfl, hg, rfl⟩) | (go_at_call 15; refine (exp_k (c := cl .f32 0) _ rfl Z1.out _).mono ?_; rintro e w1 ⟨o, no, rfl, ho, rfl⟩) | (go_at_call 12; refine (log_k (c := cl .f32 1065353216) _ rfl _).mono ?_; rintro e w1 ⟨k, nk, rfl, hk, rfl⟩))
  go_ret
  exact ⟨rfl, below_drewN (Below.refl _ _) _⟩

end Go.Proofs.Ytabacjajikiaoaa
