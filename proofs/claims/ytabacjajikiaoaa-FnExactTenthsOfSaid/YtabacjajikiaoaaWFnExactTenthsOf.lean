/- Contracts of Go functions: what each returns, as a class of words, whatever the world. -/
import Derived.Test.YtabacjajikiaoaaTrn
import Derived.Test.YtabacjajikiaoaaProg
import Derived.BigQuiet
import Derived.Deep.QuietTactic
import Derived.Deep.RegionHeld3
import Derived.Deep.DeepFit
import Derived.WalkSpells
import Derived.Lib.Hide
import Derived.WalkSmall
import Derived.Deep.DeepCutAuto
namespace Go.Proofs.Ytabacjajikiaoaa
open Go.RowKit Go.Fl

-- @has Float64frombits
theorem f64from_run (n : Int) (w : World) : (callFunc 56 #[.int .u64 n]).run Try.prog w = .ok (.value (.float .f64 n.toNat)) w := by
  rw [run_callFunc_extern Try.func56 (e := Extern.MathFloatBits.float64frombits) (by kernel_rfl) (by kernel_rfl) (by kernel_rfl) (by kernel_rfl)]; rfl

-- @has NaN
theorem nan_c (w : World) : Calls Try.prog 34 #[] w (RetV (.float .f64 9221120237041090561) w) := by
  have hy := f64from_run
  go_enter Try.func34, Try.ntmps34
  go_wp2
  go_ret
  exact ⟨0, rfl, rfl⟩

-- @has l01LogWide
theorem isInf1_c (r : Nat) (h : LogOk r) (w : World) : Calls Try.prog 67 #[.float .f64 r, .int .i64 1] w (RetV (.bool false) w) := by
  have tg := tst_gt .f64
  have hi := log_notInf h
  go_enter Try.func67, Try.ntmps67
  go_wp2
  go_ret
  exact ⟨0, rfl, rfl⟩
set_option maxHeartbeats 4000000 in
theorem l01LogWide_c (r : Nat) (h : LogOk r) (w : World) : Calls Try.prog 55 #[.float .f64 r] w (RetF .f64 (logC r) w) := by
  have tg := tst_gt .f64
  have tl := tst_lt .f64
  have te := tst_eq .f64
  obtain ⟨SE, hSE⟩ : ∃ f, f = stepE := ⟨_, rfl⟩
  obtain ⟨SD, hSD⟩ : ∃ f, f = stepD := ⟨_, rfl⟩
  obtain ⟨TP, hTP⟩ : ∃ n, n = top64 := ⟨_, rfl⟩
  have fE0 : Hid (r = SE r 0) := Lib.hid (by rw [hSE]; exact stepE_zero r)
  have fEe : Hid (SE r (logE r) = logA r) := Lib.hid (by rw [hSE]; exact stepE_end r)
  have fD0 : Hid (logA r = SD r 0) := Lib.hid (by rw [hSD]; exact stepD_zero r)
  have fDe : Hid (SD r (logD r) = logW r) := Lib.hid (by rw [hSD]; exact stepD_end r)
  have fge := Lib.hid fun k hk => stepE_ge (k := k) h hk
  have flt := Lib.hid fun k hk => stepD_lt (k := k) h hk
  have fhalf := Lib.hid fun k b hk hb => stepE_half (k := k) (b := b) h hk hb
  have fdbl := Lib.hid fun k b hk hb => stepD_dbl (k := k) (b := b) h hk hb
  have fdown := Lib.hid fun k hk => stepE_down (k := k) h hk
  have fup := Lib.hid fun k hk => stepD_up (k := k) h hk
  rw [← hSE] at fge fhalf fdown
  rw [← hSD] at flt fdbl fup
  rw [← hTP] at fup
  clear hSE hSD hTP
  obtain ⟨l1, l2, l3⟩ := log_pos h
  have hEl := logE_le h
  have hDl := logD_le h
  go_enter Try.func55, Try.ntmps55
  go_wp2_with (go_at_call 67; refine (isInf1_c r h _).mono ?_; rintro e w1 ⟨m, rfl, rfl⟩)
  go_loopw [0, 3] (fun y e wr => ∃ k n : Nat, k ≤ logE r ∧ y = .float .f64 (SE r k) ∧ e = .int .i64 (k : Int) ∧ wr = w.drewN n) (fun y _ _ => fbits y)
  case atStart => exact ⟨0, _, Nat.zero_le _, congrArg (Value.float .f64) fE0.out, rfl, rfl⟩
  case round =>
    obtain ⟨k, n, hk, rfl, rfl, rfl⟩ := hrel
    have ht := fge.out k hk
    by_cases hlt : k < logE r
    · rw [decide_eq_true hlt] at ht
      skip
      go_wp2_with (first | (refine wpList_farith _ .quo _ _ _ _ rfl rfl _ _ _ rfl rfl rfl ?_; intro m0 n0 g0) | (refine wpList_farith _ .add _ _ _ _ rfl rfl _ _ _ rfl rfl rfl ?_; intro m1 n1 g1))
      obtain rfl := fhalf.out k _ hlt g0
      go_roundw
      case rel => exact ⟨k + 1, _, hlt, rfl, by go_num, rfl⟩
      case measure => exact fdown.out k hlt
    · obtain rfl : k = logE r := by omega
      rw [decide_eq_false hlt] at ht
      skip
      go_wp2_with fail
      go_loopw [0, 3] (fun y e wr => ∃ k n : Nat, k ≤ logD r ∧ y = .float .f64 (SD r k) ∧ e = .int .i64 ((logE r : Int) - (k : Int)) ∧ wr = w.drewN n) (fun y _ _ => TP - fbits y)
      case atStart => exact ⟨0, _, Nat.zero_le _, congrArg (Value.float .f64) (fEe.out.trans fD0.out), by simp, rfl⟩
      case round =>
        clear ht
        obtain ⟨k, n, hk, rfl, rfl, rfl⟩ := hrel
        have ht := flt.out k hk
        by_cases hlt : k < logD r
        · rw [decide_eq_true hlt] at ht
          skip
          go_wp2_with (first | (refine wpList_farith _ .mul _ _ _ _ rfl rfl _ _ _ rfl rfl rfl ?_; intro m0 n0 g0) | (refine wpList_farith _ .sub _ _ _ _ rfl rfl _ _ _ rfl rfl rfl ?_; intro m1 n1 g1))
          obtain rfl := fdbl.out k _ hlt g0
          go_roundw
          case rel => exact ⟨k + 1, _, hlt, rfl, by go_num, rfl⟩
          case measure => exact fup.out k hlt
        · obtain rfl : k = logD r := by omega
          rw [decide_eq_false hlt] at ht
          skip
          have hW : SD r (logD r) = logW r := fDe.out
          rw [hW] at ht
          go_wp2_with (first | (refine wpList_farith _ .sub _ _ _ _ rfl rfl _ _ _ rfl rfl rfl ?_; intro m0 n0 g0) | (refine wpList_farith _ .add _ _ _ _ rfl rfl _ _ _ rfl rfl rfl ?_; intro m1 n1 g1) | (refine wpList_farith _ .quo _ _ _ _ rfl rfl _ _ _ rfl rfl rfl ?_; intro m2 n2 g2) | (refine wpList_farith _ .mul _ _ _ _ rfl rfl _ _ _ rfl rfl rfl ?_; intro m3 n3 g3))
          (try simp only [hW] at g0)
          (try simp only [hW] at g1)
          have hS : cl .f64 m2 = logS (cl .f64 (logW r)) := by rw [g2, g0, g1]; rfl
          have hU : cl .f64 m3 = fop .mul .f64 (logS (cl .f64 (logW r))) (logS (cl .f64 (logW r))) := by rw [g3, hS]
          have hS' := Lib.hid hS
          have hU' := Lib.hid hU
          clear hS hU g0 g1 g2 g3
          go_loopw [6, 7] (fun q i wr => ∃ j n b : Nat, j ≤ 13 ∧ i = .int .i64 (25 - 2 * (j : Int)) ∧ q = .float .f64 b ∧ cl .f64 b = logP (fop .mul .f64 (logS (cl .f64 (logW r))) (logS (cl .f64 (logW r)))) j ∧ wr = w.drewN n) (fun _ i _ => (intOf i + 2).toNat)
          case atStart => exact ⟨0, _, 0, Nat.zero_le _, rfl, rfl, rfl, rfl⟩
          case round =>
            obtain ⟨j, n, q, hj, rfl, rfl, hq, rfl⟩ := hrel
            have hq' := Lib.hid hq
            clear hq
            by_cases hlt : j < 13
            · go_wp2_with (first | (refine wpList_farith _ .quo _ _ _ _ rfl rfl _ _ _ rfl rfl rfl ?_; intro m0 n0 g0) | (refine wpList_farith _ .mul _ _ _ _ rfl rfl _ _ _ rfl rfl rfl ?_; intro m1 n1 g1) | (refine wpList_farith _ .add _ _ _ _ rfl rfl _ _ _ rfl rfl rfl ?_; intro m2 n2 g2))
              go_roundw
              case rel => exact ⟨j + 1, _, _, by omega, by go_num, rfl, by rw [logP, ← hq'.out, ← hU'.out]; unfold i2f c1; simp only [*], rfl⟩
              case measure => simp [intOf]; omega
            · obtain rfl : j = 13 := by omega
              go_wp2_with (refine wpList_farith _ _ _ _ _ _ rfl rfl _ _ _ rfl rfl rfl ?_; intro b1 n1 h1)
              go_ret
              refine ⟨_, _, rfl, ?_, rfl⟩
              unfold logC logOut
              rw [← hq'.out, ← hS'.out]
              unfold i2f; simp only [*]

-- @has Inf
theorem infNeg_c (w : World) : Calls Try.prog 35 #[.int .i64 (-1)] w (RetV (.float .f64 18442240474082181120) w) := by
  have hy := f64from_run
  go_enter Try.func35, Try.ntmps35
  go_wp2
  go_ret
  exact ⟨0, rfl, rfl⟩

-- @has l01NarrowRoot
theorem l01Narrow_c (b : Nat) (hf : fits (cl .f64 b) = true) (w : World) : Calls Try.prog 54 #[.float .f64 b] w (RetF .f32 (narrow (cl .f64 b)) w) := by
  have H := Lib.hid hf
  clear hf
  go_enter Try.func54, Try.ntmps54
  go_wp2_with (refine wpList_narrow _ _ _ _ rfl _ rfl Try.underlying22 (by rw [Try.underlying25]; rfl) rfl (H.out) ?_; intro b1 n1 h1)
  go_ret
  exact ⟨_, _, rfl, by assumption, rfl⟩

-- @has specLog
theorem isInf1_inf (r : Nat) (h : cl .f64 r = some 9218868437227405312) (w : World) : Calls Try.prog 67 #[.float .f64 r, .int .i64 1] w (RetV (.bool true) w) := by
  have tg := tst_gt .f64
  have hi : fgt .f64 (cl .f64 r) (cl .f64 9218868437227405311) = true := by rw [h]; decide +kernel
  clear h
  go_enter Try.func67, Try.ntmps67
  go_wp2
  go_ret
  exact ⟨0, rfl, rfl⟩
theorem l01LogAll_c (a r : Nat) (wa : a < 2 ^ 32) (h : cl .f64 r = widen (cl .f32 a)) (w : World) : Calls Try.prog 55 #[.float .f64 r] w (RetF .f64 (logRW (cl .f32 a)) w) := by
  have tl := tst_lt .f64
  have te := tst_eq .f64
  have p1 := flt_widen a
  have p2 := feq_widen a
  rw [← h] at p1 p2
  rcases hc : cl .f32 a with _ | c
  · have hn : cl .f64 r = none := by rw [h, hc]; rfl
    clear p1 p2 h
    go_enter Try.func55, Try.ntmps55
    go_wp2_with (go_at_call 34; refine (nan_c _).mono ?_; rintro e w1 ⟨n, rfl, rfl⟩)
    all_goals
      go_ret
      exact ⟨_, _, rfl, rfl, rfl⟩
  have hw := h
  rw [hc] at p1 p2 hw
  obtain ⟨d, hd, hi, -⟩ := widen_cl hc
  rw [hd] at hw
  have hs := ford_self hw
  unfold logRW
  dsimp only
  cases q1 : flt .f32 (some c) (cl .f32 0)
  case true =>
    rw [q1] at p1
    rw [if_pos rfl]
    have P1 := p1
    rw [hw] at P1
    clear p1 p2 h hd hi
    go_enter Try.func55, Try.ntmps55
    go_wp2_with (go_at_call 34; refine (nan_c _).mono ?_; rintro e w1 ⟨n, rfl, rfl⟩)
    all_goals
      go_ret
      exact ⟨_, _, rfl, rfl, rfl⟩
  rw [q1] at p1
  rw [if_neg (by decide)]
  cases q2 : feq .f32 (some c) (cl .f32 0)
  case true =>
    rw [q2] at p2
    rw [if_pos rfl]
    rw [hw] at p1 p2
    clear h hd hi
    go_enter Try.func55, Try.ntmps55
    go_wp2_with (go_at_call 35; refine (infNeg_c _).mono ?_; rintro e w1 ⟨n, rfl, rfl⟩)
    all_goals
      go_ret
      exact ⟨_, _, rfl, rfl, rfl⟩
  rw [q2] at p2
  rw [if_neg (by decide)]
  cases q3 : isFin .f32 (some c)
  case false =>
    rw [if_neg (by decide), hd]
    obtain rfl := inf_word wa hc q1 q2 q3
    have e : d = 9218868437227405312 := by
      have e2 : widen (some 2139095040) = some 9218868437227405312 := by decide +kernel
      rw [hd] at e2; exact Option.some.inj e2
    subst e
    rw [hw] at p1 p2
    clear h hd hi
    have HW := Lib.hid hw
    go_enter Try.func55, Try.ntmps55
    go_wp2_with (go_at_call 67; refine (isInf1_inf _ HW.out _).mono ?_; rintro e w1 ⟨n, rfl, rfl⟩)
    all_goals
      go_ret
      exact ⟨_, _, rfl, HW.out, rfl⟩
  rw [if_pos rfl]
  obtain ⟨d', hd', hL⟩ := log_fin hc q1 q2 q3
  rw [hd, Option.bind_some]
  rw [hd] at hd'
  cases hd'
  obtain ⟨rfl, -⟩ := cl_some hw
  exact l01LogWide_c _ hL _
theorem l01Log_c (a : Nat) (wa : a < 2 ^ 32) (w : World) : Calls Try.prog 33 #[.float .f32 a] w (RetF .f32 (logR (cl .f32 a)) w) := by
  have F := Lib.hid (logR_narrow wa)
  go_enter Try.func33, Try.ntmps33
  go_wp2_with (refine wpList_widen _ _ _ _ rfl _ rfl Try.underlying25 (by rw [Try.underlying22]; rfl) rfl ?_; intro b1 n1 h1)
  refine (l01LogAll_c _ _ wa h1 _).mono ?_
  rintro e w1 ⟨r, n, rfl, hr, rfl⟩
  go_wp2_with (go_at_call 54; refine (l01Narrow_c _ (by rw [hr]; exact F.out.2) _).mono ?_; rintro e w1 ⟨q, m, rfl, hq, rfl⟩)
  go_ret
  exact ⟨_, _, rfl, by rw [hq, hr]; exact F.out.1, rfl⟩
theorem specLogNumber_c (a : Nat) (wa : a < 2 ^ 32) (w : World) : Calls Try.prog 11 #[.float .f32 a] w (RetF .f32 (logR (cl .f32 a)) w) := by
  go_enter Try.func11, Try.ntmps11
  go_wp2_with (go_at_call 33; refine (l01Log_c _ wa _).mono ?_; rintro e w1 ⟨r, n, rfl, hr, rfl⟩)
  go_ret
  exact ⟨_, _, rfl, hr, rfl⟩

-- @has l01Finite
theorem l01Finite_c (b : Nat) (w : World) : Calls Try.prog 39 #[.float .f32 b] w (RetV (.bool (isFin .f32 (cl .f32 b))) w) := by
  go_enter Try.func39, Try.ntmps39
  go_wp2_with (refine wpList_farith _ _ _ _ _ _ rfl rfl _ _ _ rfl rfl rfl ?_; intro b1 n1 h1)
  go_ret
  exact ⟨_, by rw [← sub_self_eq]; rfl, rfl⟩

-- @has Floor
theorem archFloor_run (b c : Nat) (h : cl .f64 b = some c) (w : World) : (callFunc 59 #[.float .f64 b]).run Try.prog w = .ok (.value (.float .f64 (FloatKind.f64.format.write ((FloatKind.f64.format.read b).integral .down)))) w := by
  rw [run_callFunc_extern Try.func59 (e := Extern.MathFloor.toIntegral "math.archFloor" .down) (by kernel_rfl) (by kernel_rfl) (by kernel_rfl) (by kernel_rfl), run_integral w _ _ _ _ h]; rfl
theorem floor_c (b c : Nat) (h : cl .f64 b = some c) (w : World) : Calls Try.prog 41 #[.float .f64 b] w (RetV (.float .f64 (FloatKind.f64.format.write ((FloatKind.f64.format.read b).integral .down))) w) := by
  have hx := archFloor_run b c h
  clear h
  go_enter Try.func41, Try.ntmps41
  go_wp2
  go_ret
  exact ⟨0, rfl, rfl⟩

-- @has specTenthsOf
theorem specTenths_c (a d : Nat) (hd : widen (cl .f32 a) = some d) (hL : LogOk d) (w : World) : Calls Try.prog 40 #[.float .f32 a] w (RetV (.int .i64 (tenI d)) w) := by
  have D := Lib.hid hd
  have T := Lib.hid (fun x => floI_word (x := x) (ten_le hL))
  obtain ⟨y, hy, -⟩ := ten_le hL
  have Y := Lib.hid hy
  clear hd hy
  go_enter Try.func40, Try.ntmps40
  go_wp2_with (first | (refine wpList_widen _ _ _ _ rfl _ rfl Try.underlying25 (by rw [Try.underlying22]; rfl) rfl ?_; intro b1 n1 h1) | (refine wpList_farith _ .mul _ _ _ _ rfl rfl _ _ _ rfl rfl rfl ?_; intro m1 n1 g1) | (refine wpList_farith _ .add _ _ _ _ rfl rfl _ _ _ rfl rfl rfl ?_; intro m2 n2 g2) | (go_at_call 41; refine (floor_c _ _ (g2.trans (by rw [g1, hr]; exact Y.out)) _).mono ?_; rintro e w1 ⟨m, rfl, rfl⟩) | (refine wpList_f2i _ _ _ _ rfl _ rfl Try.underlying2 (by rw [Try.underlying25]; rfl) rfl _ (T.out _ (g2.trans (by rw [g1, hr]; rfl))).1 (T.out _ (g2.trans (by rw [g1, hr]; rfl))).2 ?_) | (rw [D.out] at h1; obtain ⟨rfl, -⟩ := cl_some h1; (go_at_call 55; refine (l01LogWide_c _ hL _).mono ?_; rintro e w1 ⟨r, n, rfl, hr, rfl⟩)))
  all_goals
    go_ret
    exact ⟨_, rfl, rfl⟩
theorem specTenthsOf_c (a : Nat) (w : World) : Calls Try.prog 16 #[.float .f32 a] w (RetV (.tuple #[.int .i64 (tenR (cl .f32 a)).1, .bool (tenR (cl .f32 a)).2]) w) := by
  have tl := tst_lt .f32
  have te := tst_eq .f32
  cases hf : isFin .f32 (cl .f32 a)
  case false =>
    rw [tenR_no (.inl hf)]
    go_enter Try.func16, Try.ntmps16
    go_wp2_with (go_at_call 39; refine (l01Finite_c _ _).mono ?_; rintro e w1 ⟨n, rfl, rfl⟩)
    all_goals
      go_ret2
      exact ⟨_, rfl, rfl⟩
  cases hl : (flt .f32 (cl .f32 a) (cl .f32 0) || feq .f32 (cl .f32 a) (cl .f32 0))
  case true =>
    rw [tenR_no (.inr hl)]
    go_enter Try.func16, Try.ntmps16
    go_wp2_with (go_at_call 39; refine (l01Finite_c _ _).mono ?_; rintro e w1 ⟨n, rfl, rfl⟩)
    all_goals
      go_ret2
      exact ⟨_, rfl, rfl⟩
  obtain ⟨d, hd, hL, hr⟩ := tenR_yes hf hl
  rw [hr]
  have D := Lib.hid hd
  clear hd hr
  go_enter Try.func16, Try.ntmps16
  go_wp2_with (first | (go_at_call 39; refine (l01Finite_c _ _).mono ?_; rintro e w1 ⟨n, rfl, rfl⟩) | (go_at_call 40; refine (specTenths_c _ _ D.out hL _).mono ?_; rintro e w1 ⟨n, rfl, rfl⟩))
  all_goals
    go_ret2
    exact ⟨_, rfl, rfl⟩

-- @has naturalLog
set_option maxHeartbeats 4000000 in
theorem naturalLog_c (r : Nat) (h : LogOk r) (w : World) : Calls Try.prog 57 #[.float .f64 r] w (RetF .f64 (logC r) w) := by
  have tg := tst_gt .f64
  have tl := tst_lt .f64
  have te := tst_eq .f64
  obtain ⟨SE, hSE⟩ : ∃ f, f = stepE := ⟨_, rfl⟩
  obtain ⟨SD, hSD⟩ : ∃ f, f = stepD := ⟨_, rfl⟩
  obtain ⟨TP, hTP⟩ : ∃ n, n = top64 := ⟨_, rfl⟩
  have fE0 : Hid (r = SE r 0) := Lib.hid (by rw [hSE]; exact stepE_zero r)
  have fEe : Hid (SE r (logE r) = logA r) := Lib.hid (by rw [hSE]; exact stepE_end r)
  have fD0 : Hid (logA r = SD r 0) := Lib.hid (by rw [hSD]; exact stepD_zero r)
  have fDe : Hid (SD r (logD r) = logW r) := Lib.hid (by rw [hSD]; exact stepD_end r)
  have fge := Lib.hid fun k hk => stepE_ge (k := k) h hk
  have flt := Lib.hid fun k hk => stepD_lt (k := k) h hk
  have fhalf := Lib.hid fun k b hk hb => stepE_half (k := k) (b := b) h hk hb
  have fdbl := Lib.hid fun k b hk hb => stepD_dbl (k := k) (b := b) h hk hb
  have fdown := Lib.hid fun k hk => stepE_down (k := k) h hk
  have fup := Lib.hid fun k hk => stepD_up (k := k) h hk
  rw [← hSE] at fge fhalf fdown
  rw [← hSD] at flt fdbl fup
  rw [← hTP] at fup
  clear hSE hSD hTP
  go_enter Try.func57, Try.ntmps57
  go_wp2_with (refine wpList_farith _ _ _ _ _ _ rfl rfl _ _ _ rfl rfl rfl ?_; intro b1 n1 h1)
  go_loopw [0, 3] (fun y e wr => ∃ k n b : Nat, k ≤ logE r ∧ y = .float .f64 (SE r k) ∧ e = .float .f64 b ∧ cl .f64 b = i2f ((k : Nat) : Int) ∧ wr = w.drewN n) (fun y _ _ => fbits y)
  case atStart => exact ⟨0, 0, 0, Nat.zero_le _, congrArg (Value.float .f64) fE0.out, rfl, zero_cl, rfl⟩
  case round =>
    obtain ⟨k, n, b, hk, rfl, rfl, hb, rfl⟩ := hrel
    have ht := fge.out k hk
    by_cases hlt : k < logE r
    · rw [decide_eq_true hlt] at ht
      have hb' := Lib.hid hb; clear hb
      go_wp2_with (first | (refine wpList_farith _ .quo _ _ _ _ rfl rfl _ _ _ rfl rfl rfl ?_; intro m0 n0 g0) | (refine wpList_farith _ .add _ _ _ _ rfl rfl _ _ _ rfl rfl rfl ?_; intro m1 n1 g1))
      obtain rfl := fhalf.out k _ hlt g0
      go_roundw
      case rel => exact ⟨k + 1, _, _, hlt, rfl, rfl, by rw [g1, hb'.out]; exact i2f_up1 h hlt, rfl⟩
      case measure => exact fdown.out k hlt
    · obtain rfl : k = logE r := by omega
      rw [decide_eq_false hlt] at ht
      have hb' := Lib.hid hb; clear hb
      go_wp2_with fail
      go_loopw [0, 3] (fun y e wr => ∃ k n b : Nat, k ≤ logD r ∧ y = .float .f64 (SD r k) ∧ e = .float .f64 b ∧ cl .f64 b = i2f ((logE r : Int) - ((k : Nat) : Int)) ∧ wr = w.drewN n) (fun y _ _ => TP - fbits y)
      case atStart => exact ⟨0, _, b, Nat.zero_le _, congrArg (Value.float .f64) (fEe.out.trans fD0.out), rfl, by rw [hb'.out]; exact congrArg i2f (by omega), rfl⟩
      case round =>
        clear ht
        obtain ⟨k, n, b2, hk, rfl, rfl, hb2, rfl⟩ := hrel
        have ht := flt.out k hk
        by_cases hlt : k < logD r
        · rw [decide_eq_true hlt] at ht
          have hb2' := Lib.hid hb2; clear hb2
          go_wp2_with (first | (refine wpList_farith _ .mul _ _ _ _ rfl rfl _ _ _ rfl rfl rfl ?_; intro m0 n0 g0) | (refine wpList_farith _ .sub _ _ _ _ rfl rfl _ _ _ rfl rfl rfl ?_; intro m1 n1 g1))
          obtain rfl := fdbl.out k _ hlt g0
          go_roundw
          case rel => exact ⟨k + 1, _, _, hlt, rfl, rfl, by rw [g1, hb2'.out]; exact i2f_sub1 h hlt, rfl⟩
          case measure => exact fup.out k hlt
        · obtain rfl : k = logD r := by omega
          rw [decide_eq_false hlt] at ht
          have hb2' := Lib.hid hb2; clear hb2
          have hW : SD r (logD r) = logW r := fDe.out
          rw [hW] at ht
          go_wp2_with (first | (refine wpList_farith _ .sub _ _ _ _ rfl rfl _ _ _ rfl rfl rfl ?_; intro m0 n0 g0) | (refine wpList_farith _ .add _ _ _ _ rfl rfl _ _ _ rfl rfl rfl ?_; intro m1 n1 g1) | (refine wpList_farith _ .quo _ _ _ _ rfl rfl _ _ _ rfl rfl rfl ?_; intro m2 n2 g2) | (refine wpList_farith _ .mul _ _ _ _ rfl rfl _ _ _ rfl rfl rfl ?_; intro m3 n3 g3))
          (try simp only [hW] at g0)
          (try simp only [hW] at g1)
          have hS : cl .f64 m2 = logS (cl .f64 (logW r)) := by rw [g2, g0, g1]; rfl
          have hU : cl .f64 m3 = fop .mul .f64 (logS (cl .f64 (logW r))) (logS (cl .f64 (logW r))) := by rw [g3, hS]
          have hS' := Lib.hid hS
          have hU' := Lib.hid hU
          clear hS hU g0 g1 g2 g3
          go_loopw [6, 7] (fun q i wr => ∃ j n b : Nat, j ≤ 13 ∧ i = .int .i64 (25 - 2 * (j : Int)) ∧ q = .float .f64 b ∧ cl .f64 b = logP (fop .mul .f64 (logS (cl .f64 (logW r))) (logS (cl .f64 (logW r)))) j ∧ wr = w.drewN n) (fun _ i _ => (intOf i + 2).toNat)
          case atStart => exact ⟨0, _, 0, Nat.zero_le _, rfl, rfl, rfl, rfl⟩
          case round =>
            obtain ⟨j, n, q, hj, rfl, rfl, hq, rfl⟩ := hrel
            have hq' := Lib.hid hq
            clear hq
            by_cases hlt : j < 13
            · go_wp2_with (first | (refine wpList_farith _ .quo _ _ _ _ rfl rfl _ _ _ rfl rfl rfl ?_; intro m0 n0 g0) | (refine wpList_farith _ .mul _ _ _ _ rfl rfl _ _ _ rfl rfl rfl ?_; intro m1 n1 g1) | (refine wpList_farith _ .add _ _ _ _ rfl rfl _ _ _ rfl rfl rfl ?_; intro m2 n2 g2))
              go_roundw
              case rel => exact ⟨j + 1, _, _, by omega, by go_num, rfl, by rw [logP, ← hq'.out, ← hU'.out]; unfold i2f c1; simp only [*], rfl⟩
              case measure => simp [intOf]; omega
            · obtain rfl : j = 13 := by omega
              go_wp2_with (refine wpList_farith _ _ _ _ _ _ rfl rfl _ _ _ rfl rfl rfl ?_; intro b1 n1 h1)
              go_ret
              refine ⟨_, _, rfl, ?_, rfl⟩
              unfold logC logOut
              rw [← hb2'.out, ← hq'.out, ← hS'.out]
              simp only [*]

-- @has logarithm
theorem logarithm_c (a d : Nat) (hd : widen (cl .f32 a) = some d) (h : LogOk d) (w : World) : Calls Try.prog 37 #[.float .f32 a] w (RetF .f64 (logC d) w) := by
  have H := Lib.hid hd
  clear hd
  go_enter Try.func37, Try.ntmps37
  go_wp2_with (refine wpList_widen _ _ _ _ rfl _ rfl Try.underlying25 (by rw [Try.underlying22]; rfl) rfl ?_; intro b1 n1 h1)
  rw [H.out] at h1
  obtain ⟨rfl, -⟩ := cl_some h1
  refine (naturalLog_c _ h _).mono ?_
  rintro e w1 ⟨r, n, rfl, hr, rfl⟩
  go_wp2_with fail
  go_ret
  exact ⟨_, _, rfl, hr, rfl⟩

-- @has IsNaN
theorem isNaN_c (b : Nat) (w : World) : Calls Try.prog 66 #[.float .f64 b] w (RetV (.bool (cl .f64 b).isNone) w) := by
  rcases h : cl .f64 b with _ | c
  · go_enter Try.func66, Try.ntmps66
    go_wp2
    go_ret
    exact ⟨0, rfl, rfl⟩
  · have hs := ford_self h
    go_enter Try.func66, Try.ntmps66
    go_wp2
    go_ret
    exact ⟨0, rfl, rfl⟩

-- @has Float64bits
theorem f64bits_run (x : Nat) (w : World) : (callFunc 62 #[.float .f64 x]).run Try.prog w = .ok (.value (.int .u64 x)) w := by
  rw [run_callFunc_extern Try.func62 (e := Extern.MathFloatBits.float64bits) (by kernel_rfl) (by kernel_rfl) (by kernel_rfl) (by kernel_rfl)]; rfl

-- @has Abs
theorem abs_c (b : Nat) (w : World) : Calls Try.prog 43 #[.float .f64 b] w (RetF .f64 (absC (cl .f64 b)) w) := by
  have hx := f64bits_run
  have hy := f64from_run
  go_enter Try.func43, Try.ntmps43
  go_wp2
  go_ret
  exact ⟨_, 0, rfl, by rw [bits_andNot63]; exact cl_abs b, rfl⟩

-- @has IsInf
theorem isInf_c (b c : Nat) (h : cl .f64 b = some c) (w : World) : Calls Try.prog 67 #[.float .f64 b, .int .i64 0] w (RetV (.bool (!isFin .f64 (some c))) w) := by
  have h2 := isInf_eq b c h
  rw [maxFin_eq] at h2
  go_enter Try.func67, Try.ntmps67
  go_wp2_with (go_at_call 43; refine (abs_c _ _).mono ?_; rintro e w' ⟨r, n, rfl, hr, rfl⟩)
  go_ret
  exact ⟨_, rfl, rfl⟩

-- @has finite
theorem finite_c (b : Nat) (w : World) : Calls Try.prog 48 #[.float .f64 b] w (RetV (.bool (isFin .f64 (cl .f64 b))) w) := by
  rcases h : cl .f64 b with _ | c
  · go_enter Try.func48, Try.ntmps48
    go_wp2_with (go_at_call 66; refine (isNaN_c _ _).mono ?_; rintro e w' ⟨n, rfl, rfl⟩)
    go_ret
    exact ⟨_, rfl, rfl⟩
  · cases hf : isFin .f64 (some c)
    all_goals
      go_enter Try.func48, Try.ntmps48
      go_wp2_with (first | (go_at_call 66; refine (isNaN_c _ _).mono ?_; rintro e w' ⟨n, rfl, rfl⟩) | (go_at_call 67; refine (isInf_c _ c h _).mono ?_; rintro e w' ⟨n, rfl, rfl⟩))
      go_ret
      exact ⟨_, rfl, rfl⟩

-- @has implIsFinite
theorem implIsFinite_c (b : Nat) (w : World) : Calls Try.prog 36 #[.float .f32 b] w (RetV (.bool (isFin .f32 (cl .f32 b))) w) := by
  have hw := isFin_widen b
  go_enter Try.func36, Try.ntmps36
  go_wp2_with (first | (refine wpList_widen _ _ _ _ rfl _ rfl Try.underlying25 (by rw [Try.underlying22]; rfl) rfl ?_; intro b1 n1 h1) | (go_at_call 48; refine (finite_c _ _).mono ?_; rintro e w' ⟨n, rfl, rfl⟩))
  go_ret
  exact ⟨_, rfl, rfl⟩

-- @has implTenthsOf
theorem implTenthsOf_c (a : Nat) (w : World) : Calls Try.prog 17 #[.float .f32 a] w (RetV (.tuple #[.int .i64 (tenR (cl .f32 a)).1, .bool (tenR (cl .f32 a)).2]) w) := by
  have tl := tst_lt .f32
  have te := tst_eq .f32
  cases hf : isFin .f32 (cl .f32 a)
  case false =>
    rw [tenR_no (.inl hf)]
    go_enter Try.func17, Try.ntmps17
    go_wp2_with (go_at_call 36; refine (implIsFinite_c _ _).mono ?_; rintro e w1 ⟨n, rfl, rfl⟩)
    all_goals
      go_ret2
      exact ⟨_, rfl, rfl⟩
  cases hl : (flt .f32 (cl .f32 a) (cl .f32 0) || feq .f32 (cl .f32 a) (cl .f32 0))
  case true =>
    rw [tenR_no (.inr hl)]
    go_enter Try.func17, Try.ntmps17
    go_wp2_with (go_at_call 36; refine (implIsFinite_c _ _).mono ?_; rintro e w1 ⟨n, rfl, rfl⟩)
    all_goals
      go_ret2
      exact ⟨_, rfl, rfl⟩
  obtain ⟨d, hd, hL, hr⟩ := tenR_yes hf hl
  rw [hr]
  have D := Lib.hid hd
  have T := Lib.hid (fun x => floI_word (x := x) (ten_le hL))
  obtain ⟨y, hy, -⟩ := ten_le hL
  have Y := Lib.hid hy
  clear hd hy hr
  go_enter Try.func17, Try.ntmps17
  go_wp2_with (first | (go_at_call 36; refine (implIsFinite_c _ _).mono ?_; rintro e w1 ⟨n, rfl, rfl⟩) | (go_at_call 37; refine (logarithm_c _ _ D.out hL _).mono ?_; rintro e w1 ⟨r, n, rfl, hr, rfl⟩) | (refine wpList_farith _ .mul _ _ _ _ rfl rfl _ _ _ rfl rfl rfl ?_; intro m1 n1 g1) | (refine wpList_farith _ .add _ _ _ _ rfl rfl _ _ _ rfl rfl rfl ?_; intro m2 n2 g2) | (go_at_call 41; refine (floor_c _ _ (g2.trans (by rw [g1, hr]; exact Y.out)) _).mono ?_; rintro e w1 ⟨m, rfl, rfl⟩) | (refine wpList_f2i _ _ _ _ rfl _ rfl Try.underlying2 (by rw [Try.underlying25]; rfl) rfl _ (T.out _ (g2.trans (by rw [g1, hr]; rfl))).1 (T.out _ (g2.trans (by rw [g1, hr]; rfl))).2 ?_))
  all_goals
    go_ret2
    exact ⟨_, rfl, rfl⟩

-- @has FnExactTenthsOf
theorem walk_FnExactTenthsOf (x : Nat) (_hx : x < 2 ^ 32) (w : World) : Calls Try.prog 5 #[.float .f32 x] w fun e w' => e = .returned (.bool true) ∧ Below w.heap.size w w' := by
  go_enter Try.func5, Try.ntmps5
  go_wp2_with (first | (go_at_call 16; refine (specTenthsOf_c _ _).mono ?_; rintro e w1 ⟨n, rfl, rfl⟩) | (go_at_call 17; refine (implTenthsOf_c _ _).mono ?_; rintro e w1 ⟨m, rfl, rfl⟩))
  all_goals
    go_ret
    exact ⟨rfl, below_drewN (Below.refl _ _) _⟩

end Go.Proofs.Ytabacjajikiaoaa
