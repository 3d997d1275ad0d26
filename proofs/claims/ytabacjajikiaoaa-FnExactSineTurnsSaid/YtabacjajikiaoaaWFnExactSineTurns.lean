/- Contracts of Go functions: what each returns, as a class of words, whatever the world. -/
import Derived.Test.YtabacjajikiaoaaTur
import Derived.Test.YtabacjajikiaoaaProg
import Derived.BigQuiet
import Derived.Deep.QuietTactic
import Derived.Deep.RegionHeld3
import Derived.Deep.DeepFit
import Derived.WalkSpells
import Derived.Lib.Hide
import Derived.WalkSmall
import Derived.Deep.DeepCutAuto
namespace Go.Proofs.Ytabacjajikiaoaa
open Go.RowKit Go.Fl

-- @has Float64frombits
theorem f64from_run (n : Int) (w : World) : (callFunc 56 #[.int .u64 n]).run Try.prog w = .ok (.value (.float .f64 n.toNat)) w := by
  rw [run_callFunc_extern Try.func56 (e := Extern.MathFloatBits.float64frombits) (by kernel_rfl) (by kernel_rfl) (by kernel_rfl) (by kernel_rfl)]; rfl

-- @has NaN
theorem nan_c (w : World) : Calls Try.prog 34 #[] w (RetV (.float .f64 9221120237041090561) w) := by
  have hy := f64from_run
  go_enter Try.func34, Try.ntmps34
  go_wp2
  go_ret
  exact ⟨0, rfl, rfl⟩

-- @has specSineWide
theorem sineWide_far (b : Nat) (hb : cl .f64 b = some b) (hf : isFin .f64 (cl .f64 b) = true) (h : 1075 * 2 ^ 52 ≤ rung FloatKind.f64.format b) (w : World) : Calls Try.prog 61 #[.float .f64 b] w (RetF .f64 (cl .f64 0) w) := by
  have tg := tst_gt .f64
  have tl := tst_lt .f64
  have te := tst_eq .f64
  have sy := sub_self_eq .f64 b
  rw [hf] at sy
  have ny : (ford .f64 (fop .sub .f64 (cl .f64 b) (cl .f64 b)) (cl .f64 0) != some .eq) = false := by rw [bne, sy]; rfl
  have a1 := far_hi hb
  have a2 := far_lo hb
  rw [hb] at ny
  clear sy hf
  rcases far_split h with h1 | ⟨h1, h2⟩
  · rw [decide_eq_true h1] at a1
    clear h h1 a2
    go_enter Try.func61, Try.ntmps61
    go_wp2_with (refine wpList_farith _ _ _ _ _ _ rfl rfl _ _ _ rfl rfl rfl ?_; intro b1 n1 h1)
    all_goals
      go_ret
      exact ⟨_, _, rfl, rfl, rfl⟩
  · rw [decide_eq_false h1] at a1
    rw [decide_eq_true h2] at a2
    clear h h1 h2
    go_enter Try.func61, Try.ntmps61
    go_wp2_with (refine wpList_farith _ _ _ _ _ _ rfl rfl _ _ _ rfl rfl rfl ?_; intro b1 n1 h1)
    all_goals
      go_ret
      exact ⟨_, _, rfl, rfl, rfl⟩
theorem sineWide_nan (b : Nat) (hf : isFin .f64 (cl .f64 b) = false) (w : World) : Calls Try.prog 61 #[.float .f64 b] w (RetF .f64 none w) := by
  have sy := sub_self_eq .f64 b
  rw [hf] at sy
  have ny : (ford .f64 (fop .sub .f64 (cl .f64 b) (cl .f64 b)) (cl .f64 0) != some .eq) = true := by rw [bne, sy]; rfl
  clear sy hf
  go_enter Try.func61, Try.ntmps61
  go_wp2_with (first | (refine wpList_farith _ _ _ _ _ _ rfl rfl _ _ _ rfl rfl rfl ?_; intro b1 n1 h1) | (go_at_call 34; refine (nan_c _).mono ?_; rintro e w1 ⟨n, rfl, rfl⟩))
  all_goals
    go_ret
    exact ⟨_, _, rfl, by decide +kernel, rfl⟩
set_option maxHeartbeats 4000000 in
theorem sineWide_c (b : Nat) (h : Tur b) (w : World) : Calls Try.prog 61 #[.float .f64 b] w (RetF .f64 (sinC b) w) := by
  have tg := tst_gt .f64
  have tl := tst_lt .f64
  have te := tst_eq .f64
  have sy := sub_self_eq .f64 b
  have hf : isFin .f64 (cl .f64 b) = true := tur_fin h
  rw [hf] at sy
  have ny : (ford .f64 (fop .sub .f64 (cl .f64 b) (cl .f64 b)) (cl .f64 0) != some .eq) = false := by rw [bne, sy]; rfl
  have hb := Lib.hid h.1
  have a1 := far_hi h.1
  have a2 := far_lo h.1
  rw [decide_eq_false (near_split h.2).1] at a1
  rw [decide_eq_false (near_split h.2).2] at a2
  rw [← h.1] at a1 a2
  clear sy hf
  have ti := Lib.hid (tur_int h)
  have tq : ∀ f, fgt .f64 f (cl .f64 4598175219545276416) = sinQ f := fun _ => rfl
  have tt : ∀ f, (fgt .f64 f (cl .f64 4602678819172646912) || feq .f64 f (cl .f64 4602678819172646912)) = sinT f := fun _ => rfl
  obtain ⟨F, hF⟩ : ∃ F, F = behC b := ⟨_, rfl⟩
  obtain ⟨Z, hZ⟩ : ∃ Z, Z = sinZ F := ⟨_, rfl⟩
  have ZZ := Lib.hid hZ
  have e : sinC b = if sinT F then negC (sinO Z) else sinO Z := by rw [hZ, hF]; rfl
  rw [e]
  unfold behC at hF
  have FF := Lib.hid hF
  have FR := Lib.hid (rfl : fop .sub .f64 (some b) (i2f (toI b)) = fracC b)
  clear hF hZ e
  cases t0 : flt .f64 (fracC b) (cl .f64 0)
  · obtain rfl : F = fracC b := by (rw [FF.out, t0]; rfl)
    have E0 := Lib.hid t0
    cases t1 : sinT (fracC b)
    all_goals cases t2 : sinQ (sinA (sinT (fracC b)) (fracC b))
    all_goals
      rw [t1] at t2
      have E1 := Lib.hid t1
      have E2 := Lib.hid t2
      unfold sinA at t2
      (try simp only [if_true, Bool.false_eq_true, if_false] at t2)
      go_enter Try.func61, Try.ntmps61
      go_wp2_with (first | (refine wpList_f2i _ _ _ _ rfl _ rfl Try.underlying2 (by rw [Try.underlying25]; rfl) rfl _ ti.out.1 ti.out.2 ?_) | (refine wpList_farith _ .sub _ _ _ _ rfl rfl _ _ _ rfl rfl rfl ?_; intro s ns gs; have same : cl .f64 s = fop .sub .f64 (cl .f64 b) (cl .f64 b) := gs; clear same) | (refine wpList_farith _ .sub _ _ _ _ rfl rfl _ _ _ rfl rfl rfl ?_; intro y ny2 gy; rw [hb.out] at gy; have hy : cl .f64 y = fracC b := gy.trans FR.out; clear gy) | (refine wpList_farith _ .add _ _ _ _ rfl rfl _ _ _ rfl rfl rfl ?_; intro a na ga; (have hr : cl .f64 a = F := by (rw [ga, hy, FF.out, E0.out]; rfl)); clear ga) | (refine wpList_farith _ .sub _ _ _ _ rfl rfl _ _ _ rfl rfl rfl ?_; intro m1 n1 g1) | (refine wpList_farith _ .mul _ _ _ _ rfl rfl _ _ _ rfl rfl rfl ?_; intro z nz gz; have hz : cl .f64 z = Z := by rw [ZZ.out]; unfold sinZ; rw [E1.out, E2.out]; simp only [sinA, sinB, if_true, if_false, Bool.false_eq_true]; simp only [*]; done) | (refine wpList_farith _ .mul _ _ _ _ rfl rfl _ _ _ rfl rfl rfl ?_; intro u nu gu; have hu : cl .f64 u = sinU Z := by rw [gu, hz]; rfl))
      clear gz gu
      have hu' := Lib.hid hu
      clear hu
      go_loopw [7, 8] (fun p i wr => ∃ j n q : Nat, j ≤ 8 ∧ i = .int .i64 (8 - (j : Int)) ∧ p = .float .f64 q ∧ cl .f64 q = sinP (sinU Z) j ∧ wr = w.drewN n) (fun _ i _ => (intOf i + 2).toNat)
      case atStart => exact ⟨0, _, _, Nat.zero_le _, rfl, rfl, rfl, rfl⟩
      case round =>
        obtain ⟨j, n, q, hj, rfl, rfl, hq, rfl⟩ := hrel
        have hp' := Lib.hid hq
        clear hq
        by_cases hlt : j < 8
        · go_wp2_with (first | (refine wpList_farith _ .mul _ _ _ _ rfl rfl _ _ _ rfl rfl rfl ?_; intro m1 n1 g1) | (refine wpList_farith _ .quo _ _ _ _ rfl rfl _ _ _ rfl rfl rfl ?_; intro m2 n2 g2) | (refine wpList_farith _ .sub _ _ _ _ rfl rfl _ _ _ rfl rfl rfl ?_; intro m3 n3 g3))
          go_roundw
          case rel => exact ⟨j + 1, _, _, by omega, by go_num, rfl, by rw [sin_wrap j hlt] at g2; rw [sinP, ← hp'.out, ← hu'.out]; unfold i2f; simp only [*], rfl⟩
          case measure => simp [intOf]; omega
        · obtain rfl : j = 8 := by omega
          go_wp2_with (refine wpList_farith _ .mul _ _ _ _ rfl rfl _ _ _ rfl rfl rfl ?_; intro o no go; have ho : cl .f64 o = sinO Z := by (rw [go, hz, hp'.out]; rfl))
          all_goals
            go_ret
            exact ⟨_, _, rfl, by simp [cl_neg, ho], rfl⟩
  · have E0 := Lib.hid t0
    cases t1 : sinT F
    all_goals cases t2 : sinQ (sinA (sinT F) F)
    all_goals
      rw [t1] at t2
      have E1 := Lib.hid t1
      have E2 := Lib.hid t2
      unfold sinA at t2
      (try simp only [if_true, Bool.false_eq_true, if_false] at t2)
      go_enter Try.func61, Try.ntmps61
      go_wp2_with (first | (refine wpList_f2i _ _ _ _ rfl _ rfl Try.underlying2 (by rw [Try.underlying25]; rfl) rfl _ ti.out.1 ti.out.2 ?_) | (refine wpList_farith _ .sub _ _ _ _ rfl rfl _ _ _ rfl rfl rfl ?_; intro s ns gs; have same : cl .f64 s = fop .sub .f64 (cl .f64 b) (cl .f64 b) := gs; clear same) | (refine wpList_farith _ .sub _ _ _ _ rfl rfl _ _ _ rfl rfl rfl ?_; intro y ny2 gy; rw [hb.out] at gy; have hy : cl .f64 y = fracC b := gy.trans FR.out; clear gy) | (refine wpList_farith _ .add _ _ _ _ rfl rfl _ _ _ rfl rfl rfl ?_; intro a na ga; (have hr : cl .f64 a = F := by (rw [ga, hy, FF.out, E0.out]; rfl)); clear ga) | (refine wpList_farith _ .sub _ _ _ _ rfl rfl _ _ _ rfl rfl rfl ?_; intro m1 n1 g1) | (refine wpList_farith _ .mul _ _ _ _ rfl rfl _ _ _ rfl rfl rfl ?_; intro z nz gz; have hz : cl .f64 z = Z := by rw [ZZ.out]; unfold sinZ; rw [E1.out, E2.out]; simp only [sinA, sinB, if_true, if_false, Bool.false_eq_true]; simp only [*]; done) | (refine wpList_farith _ .mul _ _ _ _ rfl rfl _ _ _ rfl rfl rfl ?_; intro u nu gu; have hu : cl .f64 u = sinU Z := by rw [gu, hz]; rfl))
      clear gz gu
      have hu' := Lib.hid hu
      clear hu
      go_loopw [7, 8] (fun p i wr => ∃ j n q : Nat, j ≤ 8 ∧ i = .int .i64 (8 - (j : Int)) ∧ p = .float .f64 q ∧ cl .f64 q = sinP (sinU Z) j ∧ wr = w.drewN n) (fun _ i _ => (intOf i + 2).toNat)
      case atStart => exact ⟨0, _, _, Nat.zero_le _, rfl, rfl, rfl, rfl⟩
      case round =>
        obtain ⟨j, n, q, hj, rfl, rfl, hq, rfl⟩ := hrel
        have hp' := Lib.hid hq
        clear hq
        by_cases hlt : j < 8
        · go_wp2_with (first | (refine wpList_farith _ .mul _ _ _ _ rfl rfl _ _ _ rfl rfl rfl ?_; intro m1 n1 g1) | (refine wpList_farith _ .quo _ _ _ _ rfl rfl _ _ _ rfl rfl rfl ?_; intro m2 n2 g2) | (refine wpList_farith _ .sub _ _ _ _ rfl rfl _ _ _ rfl rfl rfl ?_; intro m3 n3 g3))
          go_roundw
          case rel => exact ⟨j + 1, _, _, by omega, by go_num, rfl, by rw [sin_wrap j hlt] at g2; rw [sinP, ← hp'.out, ← hu'.out]; unfold i2f; simp only [*], rfl⟩
          case measure => simp [intOf]; omega
        · obtain rfl : j = 8 := by omega
          go_wp2_with (refine wpList_farith _ .mul _ _ _ _ rfl rfl _ _ _ rfl rfl rfl ?_; intro o no go; have ho : cl .f64 o = sinO Z := by (rw [go, hz, hp'.out]; rfl))
          all_goals
            go_ret
            exact ⟨_, _, rfl, by simp [cl_neg, ho], rfl⟩

-- @has l01NarrowRoot
theorem l01Narrow_c (b : Nat) (hf : fits (cl .f64 b) = true) (w : World) : Calls Try.prog 54 #[.float .f64 b] w (RetF .f32 (narrow (cl .f64 b)) w) := by
  have H := Lib.hid hf
  clear hf
  go_enter Try.func54, Try.ntmps54
  go_wp2_with (refine wpList_narrow _ _ _ _ rfl _ rfl Try.underlying22 (by rw [Try.underlying25]; rfl) rfl (H.out) ?_; intro b1 n1 h1)
  go_ret
  exact ⟨_, _, rfl, by assumption, rfl⟩

-- @has specSineTurns
theorem l01Sine_c (a : Nat) (w : World) : Calls Try.prog 42 #[.float .f32 a] w (RetF .f32 (narrow (sinW (widen (cl .f32 a)))) w) := by
  rcases sin_ways a with ⟨hf, hw⟩ | ⟨b, hb, hf, hf2, hb2, ⟨h, hw⟩ | ⟨h, hw⟩⟩
  · rw [hw]
    rw [← isFin_widen] at hf
    have F := Lib.hid hf
    clear hw hf
    go_enter Try.func42, Try.ntmps42
    go_wp2_with (refine wpList_widen _ _ _ _ rfl _ rfl Try.underlying25 (by rw [Try.underlying22]; rfl) rfl ?_; intro b1 n1 h1)
    refine (sineWide_nan _ (by rw [h1]; exact F.out) _).mono ?_
    rintro e w1 ⟨r, n, rfl, hr, rfl⟩
    go_wp2_with (go_at_call 54; refine (l01Narrow_c _ (by rw [hr]; rfl) _).mono ?_; rintro e w1 ⟨q, m, rfl, hq, rfl⟩)
    go_ret
    exact ⟨_, _, rfl, by rw [hq, hr], rfl⟩
  · rw [hb, hw]
    have B := Lib.hid hb
    clear hb hw
    go_enter Try.func42, Try.ntmps42
    go_wp2_with (refine wpList_widen _ _ _ _ rfl _ rfl Try.underlying25 (by rw [Try.underlying22]; rfl) rfl ?_; intro b1 n1 h1)
    rw [B.out] at h1
    obtain ⟨rfl, -⟩ := cl_some h1
    refine (sineWide_far _ hb2 hf2 h _).mono ?_
    rintro e w1 ⟨r, n, rfl, hr, rfl⟩
    go_wp2_with (go_at_call 54; refine (l01Narrow_c _ (by rw [hr]; rfl) _).mono ?_; rintro e w1 ⟨q, m, rfl, hq, rfl⟩)
    go_ret
    exact ⟨_, _, rfl, by rw [hq, hr], rfl⟩
  · rw [hb, hw]
    have B := Lib.hid hb
    have Ft := Lib.hid (fits_of_le ((sinC_le h).mono (by decide)))
    clear hb hw
    go_enter Try.func42, Try.ntmps42
    go_wp2_with (refine wpList_widen _ _ _ _ rfl _ rfl Try.underlying25 (by rw [Try.underlying22]; rfl) rfl ?_; intro b1 n1 h1)
    rw [B.out] at h1
    obtain ⟨rfl, -⟩ := cl_some h1
    refine (sineWide_c _ h _).mono ?_
    rintro e w1 ⟨r, n, rfl, hr, rfl⟩
    go_wp2_with (go_at_call 54; refine (l01Narrow_c _ (by rw [hr]; exact Ft.out) _).mono ?_; rintro e w1 ⟨q, m, rfl, hq, rfl⟩)
    go_ret
    exact ⟨_, _, rfl, by rw [hq, hr], rfl⟩
theorem specSineTurns_c (a : Nat) (w : World) : Calls Try.prog 18 #[.float .f32 a] w (RetF .f32 (narrow (sinW (widen (cl .f32 a)))) w) := by
  go_enter Try.func18, Try.ntmps18
  go_wp2_with (go_at_call 42; refine (l01Sine_c _ _).mono ?_; rintro e w1 ⟨r, n, rfl, hr, rfl⟩)
  go_ret
  exact ⟨_, _, rfl, hr, rfl⟩

-- @has Trunc
theorem archTrunc_run (b c : Nat) (h : cl .f64 b = some c) (w : World) : (callFunc 73 #[.float .f64 b]).run Try.prog w = .ok (.value (.float .f64 (FloatKind.f64.format.write ((FloatKind.f64.format.read b).integral .zero)))) w := by
  rw [run_callFunc_extern Try.func73 (e := Extern.MathFloor.toIntegral "math.archTrunc" .zero) (by kernel_rfl) (by kernel_rfl) (by kernel_rfl) (by kernel_rfl), run_integral w _ _ _ _ h]; rfl
theorem trunc_c (b c : Nat) (h : cl .f64 b = some c) (w : World) : Calls Try.prog 68 #[.float .f64 b] w (RetV (.float .f64 (FloatKind.f64.format.write ((FloatKind.f64.format.read b).integral .zero))) w) := by
  have hx := archTrunc_run b c h
  clear h
  go_enter Try.func68, Try.ntmps68
  go_wp2
  go_ret
  exact ⟨0, rfl, rfl⟩

-- @has behind
theorem behind_c (b : Nat) (h : Tur b) (w : World) : Calls Try.prog 49 #[.float .f64 b] w (RetF .f64 (behC b) w) := by
  have tl := tst_lt .f64
  have hb := Lib.hid h.1
  have T := Lib.hid (trunc_add h)
  unfold behC
  cases hq : flt .f64 (fracC b) (cl .f64 0)
  all_goals
    go_enter Try.func49, Try.ntmps49
    go_wp2_with (first | (go_at_call 68; refine (trunc_c _ _ hb.out _).mono ?_; rintro e w1 ⟨m, rfl, rfl⟩) | (refine wpList_farith _ .sub _ _ _ _ rfl rfl _ _ _ rfl rfl rfl ?_; intro m2 n2 g2; rw [g1, T.out, hb.out] at g2; change cl .f64 m2 = fracC b at g2) | (refine wpList_farith _ .add _ _ _ _ rfl rfl _ _ _ rfl rfl rfl ?_; intro m1 n1 g1))
    go_ret
    exact ⟨_, _, rfl, by simp only [*], rfl⟩

-- @has sine
set_option maxHeartbeats 4000000 in
theorem sine_c (b : Nat) (h : Tur b) (w : World) : Calls Try.prog 44 #[.float .f64 b] w (RetF .f64 (sinC b) w) := by
  have tg := tst_gt .f64
  have te := tst_eq .f64
  have tq : ∀ f, fgt .f64 f (cl .f64 4598175219545276416) = sinQ f := fun _ => rfl
  have tt : ∀ f, (fgt .f64 f (cl .f64 4602678819172646912) || feq .f64 f (cl .f64 4602678819172646912)) = sinT f := fun _ => rfl
  obtain ⟨F, hF⟩ : ∃ F, F = behC b := ⟨_, rfl⟩
  obtain ⟨Z, hZ⟩ : ∃ Z, Z = sinZ F := ⟨_, rfl⟩
  have FF := Lib.hid hF
  have ZZ := Lib.hid hZ
  have e : sinC b = if sinT F then negC (sinO Z) else sinO Z := by rw [hZ, hF]; rfl
  rw [e]
  clear hF hZ e
  cases t1 : sinT F
  all_goals cases t2 : sinQ (sinA (sinT F) F)
  all_goals
    rw [t1] at t2
    have E1 := Lib.hid t1
    have E2 := Lib.hid t2
    unfold sinA at t2
    (try simp only [if_true, Bool.false_eq_true, if_false] at t2)
    go_enter Try.func44, Try.ntmps44
    go_wp2_with (first | ((go_at_call 49; refine (behind_c _ h _).mono ?_; rintro e w1 ⟨r, n, rfl, hr, rfl⟩); rw [← FF.out] at hr) | (refine wpList_farith _ .sub _ _ _ _ rfl rfl _ _ _ rfl rfl rfl ?_; intro m1 n1 g1) | (refine wpList_farith _ .mul _ _ _ _ rfl rfl _ _ _ rfl rfl rfl ?_; intro z nz gz; have hz : cl .f64 z = Z := by rw [ZZ.out]; unfold sinZ; rw [E1.out, E2.out]; simp only [sinA, sinB, if_true, if_false, Bool.false_eq_true]; simp only [*]; done) | (refine wpList_farith _ .mul _ _ _ _ rfl rfl _ _ _ rfl rfl rfl ?_; intro u nu gu; have hu : cl .f64 u = sinU Z := by rw [gu, hz]; rfl))
    clear gz gu
    have hu' := Lib.hid hu
    clear hu
    go_loopw [7, 8] (fun p i wr => ∃ j n q : Nat, j ≤ 8 ∧ i = .int .i64 (8 - (j : Int)) ∧ p = .float .f64 q ∧ cl .f64 q = sinP (sinU Z) j ∧ wr = w.drewN n) (fun _ i _ => (intOf i + 2).toNat)
    case atStart => exact ⟨0, _, _, Nat.zero_le _, rfl, rfl, rfl, rfl⟩
    case round =>
      obtain ⟨j, n, q, hj, rfl, rfl, hq, rfl⟩ := hrel
      have hp' := Lib.hid hq
      clear hq
      by_cases hlt : j < 8
      · go_wp2_with (first | (refine wpList_farith _ .mul _ _ _ _ rfl rfl _ _ _ rfl rfl rfl ?_; intro m1 n1 g1) | (refine wpList_farith _ .quo _ _ _ _ rfl rfl _ _ _ rfl rfl rfl ?_; intro m2 n2 g2) | (refine wpList_farith _ .sub _ _ _ _ rfl rfl _ _ _ rfl rfl rfl ?_; intro m3 n3 g3))
        go_roundw
        case rel => exact ⟨j + 1, _, _, by omega, by go_num, rfl, by rw [sin_wrap j hlt] at g2; rw [sinP, ← hp'.out, ← hu'.out]; unfold i2f; simp only [*], rfl⟩
        case measure => simp [intOf]; omega
      · obtain rfl : j = 8 := by omega
        go_wp2_with (refine wpList_farith _ .mul _ _ _ _ rfl rfl _ _ _ rfl rfl rfl ?_; intro o no go; have ho : cl .f64 o = sinO Z := by (rw [go, hz, hp'.out]; rfl))
        all_goals
          go_ret
          exact ⟨_, _, rfl, by simp [cl_neg, ho], rfl⟩

-- @has IsNaN
theorem isNaN_c (b : Nat) (w : World) : Calls Try.prog 66 #[.float .f64 b] w (RetV (.bool (cl .f64 b).isNone) w) := by
  rcases h : cl .f64 b with _ | c
  · go_enter Try.func66, Try.ntmps66
    go_wp2
    go_ret
    exact ⟨0, rfl, rfl⟩
  · have hs := ford_self h
    go_enter Try.func66, Try.ntmps66
    go_wp2
    go_ret
    exact ⟨0, rfl, rfl⟩

-- @has Float64bits
theorem f64bits_run (x : Nat) (w : World) : (callFunc 62 #[.float .f64 x]).run Try.prog w = .ok (.value (.int .u64 x)) w := by
  rw [run_callFunc_extern Try.func62 (e := Extern.MathFloatBits.float64bits) (by kernel_rfl) (by kernel_rfl) (by kernel_rfl) (by kernel_rfl)]; rfl

-- @has Abs
theorem abs_c (b : Nat) (w : World) : Calls Try.prog 43 #[.float .f64 b] w (RetF .f64 (absC (cl .f64 b)) w) := by
  have hx := f64bits_run
  have hy := f64from_run
  go_enter Try.func43, Try.ntmps43
  go_wp2
  go_ret
  exact ⟨_, 0, rfl, by rw [bits_andNot63]; exact cl_abs b, rfl⟩

-- @has IsInf
theorem isInf_c (b c : Nat) (h : cl .f64 b = some c) (w : World) : Calls Try.prog 67 #[.float .f64 b, .int .i64 0] w (RetV (.bool (!isFin .f64 (some c))) w) := by
  have h2 := isInf_eq b c h
  rw [maxFin_eq] at h2
  go_enter Try.func67, Try.ntmps67
  go_wp2_with (go_at_call 43; refine (abs_c _ _).mono ?_; rintro e w' ⟨r, n, rfl, hr, rfl⟩)
  go_ret
  exact ⟨_, rfl, rfl⟩

-- @has finite
theorem finite_c (b : Nat) (w : World) : Calls Try.prog 48 #[.float .f64 b] w (RetV (.bool (isFin .f64 (cl .f64 b))) w) := by
  rcases h : cl .f64 b with _ | c
  · go_enter Try.func48, Try.ntmps48
    go_wp2_with (go_at_call 66; refine (isNaN_c _ _).mono ?_; rintro e w' ⟨n, rfl, rfl⟩)
    go_ret
    exact ⟨_, rfl, rfl⟩
  · cases hf : isFin .f64 (some c)
    all_goals
      go_enter Try.func48, Try.ntmps48
      go_wp2_with (first | (go_at_call 66; refine (isNaN_c _ _).mono ?_; rintro e w' ⟨n, rfl, rfl⟩) | (go_at_call 67; refine (isInf_c _ c h _).mono ?_; rintro e w' ⟨n, rfl, rfl⟩))
      go_ret
      exact ⟨_, rfl, rfl⟩

-- @has implIsFinite
theorem implIsFinite_c (b : Nat) (w : World) : Calls Try.prog 36 #[.float .f32 b] w (RetV (.bool (isFin .f32 (cl .f32 b))) w) := by
  have hw := isFin_widen b
  go_enter Try.func36, Try.ntmps36
  go_wp2_with (first | (refine wpList_widen _ _ _ _ rfl _ rfl Try.underlying25 (by rw [Try.underlying22]; rfl) rfl ?_; intro b1 n1 h1) | (go_at_call 48; refine (finite_c _ _).mono ?_; rintro e w' ⟨n, rfl, rfl⟩))
  go_ret
  exact ⟨_, rfl, rfl⟩

-- @has implSineTurns
theorem implSineTurns_c (a : Nat) (w : World) : Calls Try.prog 19 #[.float .f32 a] w (RetF .f32 (narrow (sinW (widen (cl .f32 a)))) w) := by
  have tg := tst_gt .f64
  have te := tst_eq .f64
  rcases sin_ways a with ⟨hf, hw⟩ | ⟨b, hb, hf, hf2, hb2, ⟨h, hw⟩ | ⟨h, hw⟩⟩
  · rw [hw]
    clear hw
    go_enter Try.func19, Try.ntmps19
    go_wp2_with (first | (go_at_call 36; refine (implIsFinite_c _ _).mono ?_; rintro e w1 ⟨n, rfl, rfl⟩) | (go_at_call 34; refine (nan_c _).mono ?_; rintro e w1 ⟨n, rfl, rfl⟩) | (refine wpList_narrow _ _ _ _ rfl _ rfl Try.underlying22 (by rw [Try.underlying25]; rfl) rfl (by decide +kernel) ?_; intro b1 n1 h1))
    all_goals
      go_ret
      exact ⟨_, _, rfl, by rw [h1]; decide +kernel, rfl⟩
  · rw [hb, hw]
    have B := Lib.hid hb
    have a1 := (far_abs hb2).trans (decide_eq_true h)
    rw [← hb2] at a1
    clear hb hw h hb2 hf2
    go_enter Try.func19, Try.ntmps19
    go_wp2_with (first | (go_at_call 36; refine (implIsFinite_c _ _).mono ?_; rintro e w1 ⟨n, rfl, rfl⟩) | (refine wpList_widen _ _ _ _ rfl _ rfl Try.underlying25 (by rw [Try.underlying22]; rfl) rfl ?_; intro b1 n1 h1; rw [B.out] at h1; obtain ⟨rfl, -⟩ := cl_some h1; clear h1) | (go_at_call 43; refine (abs_c _ _).mono ?_; rintro e w1 ⟨r, n, rfl, hr, rfl⟩))
    all_goals
      go_ret
      exact ⟨_, _, rfl, by decide +kernel, rfl⟩
  · rw [hb, hw]
    have B := Lib.hid hb
    have a1 := (far_abs hb2).trans (decide_eq_false (Nat.not_le_of_lt h.2))
    rw [← hb2] at a1
    have Ft := Lib.hid (fits_of_le ((sinC_le h).mono (by decide)))
    clear hb hw hb2 hf2
    go_enter Try.func19, Try.ntmps19
    go_wp2_with (first | (go_at_call 36; refine (implIsFinite_c _ _).mono ?_; rintro e w1 ⟨n, rfl, rfl⟩) | (refine wpList_widen _ _ _ _ rfl _ rfl Try.underlying25 (by rw [Try.underlying22]; rfl) rfl ?_; intro b1 n1 h1; rw [B.out] at h1; obtain ⟨rfl, -⟩ := cl_some h1; clear h1) | (go_at_call 43; refine (abs_c _ _).mono ?_; rintro e w1 ⟨r, n, rfl, hr, rfl⟩) | (go_at_call 44; refine (sine_c _ h _).mono ?_; rintro e w1 ⟨q, n, rfl, hq, rfl⟩) | (refine wpList_narrow _ _ _ _ rfl _ rfl Try.underlying22 (by rw [Try.underlying25]; rfl) rfl (by rw [hq]; exact Ft.out) ?_; intro b1 n1 h1))
    all_goals
      go_ret
      exact ⟨_, _, rfl, by rw [‹cl .f32 _ = narrow _›, hq], rfl⟩

-- @has sameFloat
set_option maxHeartbeats 400000 in
theorem sameFloat_true (a b : Nat) (h : cl .f64 a = cl .f64 b) (w : World) :
    Calls Try.prog 13 #[.float .f64 a, .float .f64 b] w (RetV (.bool true) w) := by
  generalize hb : cl .f64 b = c at h
  rcases c with _ | c
  · go_enter Try.func13, Try.ntmps13
    go_wp2
    go_ret
    exact ⟨0, rfl, rfl⟩
  · have hs := ford_self h
    rcases h0 : ford .f64 (some c) (cl .f64 0) with _ | (_ | _ | _)
    all_goals
      go_enter Try.func13, Try.ntmps13
      go_wp2_with (refine wpList_farith _ _ _ _ _ _ rfl rfl _ _ _ rfl rfl rfl ?_; intro b1 n1 h1)
      go_ret
      first | exact ⟨0, rfl, rfl⟩ | exact ⟨_, rfl, rfl⟩

-- @has FnExactSineTurns
theorem walk_FnExactSineTurns (x : Nat) (_hx : x < 2 ^ 32) (w : World) : Calls Try.prog 6 #[.float .f32 x] w fun e w' => e = .returned (.bool true) ∧ Below w.heap.size w w' := by
  go_enter Try.func6, Try.ntmps6
  go_wp2_with (first | (go_at_call 18; refine (specSineTurns_c _ _).mono ?_; rintro e w1 ⟨r, n, rfl, hr, rfl⟩) | (go_at_call 19; refine (implSineTurns_c _ _).mono ?_; rintro e w1 ⟨q, m, rfl, hq, rfl⟩) | (refine wpList_widen _ _ _ _ rfl _ rfl Try.underlying25 (by rw [Try.underlying22]; rfl) rfl ?_; intro b1 n1 h1) | (go_at_call 13; refine (sameFloat_true _ _ (by simp only [*]) _).mono ?_; rintro e w1 ⟨m1, rfl, rfl⟩))
  go_ret
  exact ⟨rfl, below_drewN (Below.refl _ _) _⟩

end Go.Proofs.Ytabacjajikiaoaa
