/- Contracts of Go functions: what each returns, as a class of words, whatever the world. -/
import Derived.Test.YtabacjajikiaoaaCin
import Derived.Test.YtabacjajikiaoaaInt
import Derived.Test.YtabacjajikiaoaaProg
import Derived.BigQuiet
import Derived.Deep.QuietTactic
import Derived.Deep.RegionHeld3
import Derived.Deep.DeepFit
import Derived.WalkSpells
import Derived.Lib.Hide
import Derived.WalkSmall
import Derived.Deep.DeepCutAuto
namespace Go.Proofs.Ytabacjajikiaoaa
open Go.RowKit Go.Fl
set_option maxRecDepth 20000

-- @has b10
theorem b10Long_c (a a' : Option Addr) (len cap len' cap' : Nat) (hl : len ≤ maxLen) (hl' : len' ≤ maxLen) (w : World) : Calls Try.prog 25 #[.slice a len cap, .slice a' len' cap'] w (RetV (.bool (decide (1048576 < len) || decide (1048576 < len'))) w) := by
  unfold maxLen at hl hl'
  by_cases h1 : 1048576 < len
  · have g1 : (1048576 : Int) < len := by omega
    rw [decide_eq_true h1]
    go_enter Try.func25, Try.ntmps25
    go_wp2
    all_goals
      go_ret
      exact ⟨0, rfl, rfl⟩
  · have g1 : ¬ (1048576 : Int) < len := by omega
    rw [decide_eq_false h1]
    by_cases h2 : 1048576 < len'
    · have g2 : (1048576 : Int) < len' := by omega
      rw [decide_eq_true h2]
      go_enter Try.func25, Try.ntmps25
      go_wp2
      all_goals
        go_ret
        exact ⟨0, rfl, rfl⟩
    · have g2 : ¬ (1048576 : Int) < len' := by omega
      rw [decide_eq_false h2]
      go_enter Try.func25, Try.ntmps25
      go_wp2
      all_goals
        go_ret
        exact ⟨0, rfl, rfl⟩
theorem b10At_c (a : Option Addr) (len cap : Nat) (Z : Nat → Int) (w : World) (h : SlI .u8 w a len Z) (hZ : ∀ j, j < len → 0 ≤ Z j ∧ Z j ≤ 255) (i : Nat) (m : Int) (hi : i < 1000) (hm : 2 ≤ m) (hm2 : m ≤ 1000000) :
    Calls Try.prog 26 #[.slice a len cap, .int .i64 (i : Int), .int .i64 m] w fun e w' => ∃ v : Nat, (v : Int) < m ∧ RetV (.int .i64 (v : Int)) w e w' := by
  have hl := h.1
  unfold maxLen at hl
  have g0 : ¬ m ≤ 1 := by omega
  have gz : ¬ m = 0 := by omega
  have tm : ∀ z : Int, 0 ≤ z % m ∧ z % m < m := fun z => ⟨Int.emod_nonneg _ (by omega), Int.emod_lt_of_pos _ (by omega)⟩
  by_cases hlt : i < len
  · obtain ⟨g, off, rfl, hc⟩ := h.2 (by omega)
    have c0 := hc i hlt
    obtain ⟨z0, z1⟩ := hZ i hlt
    have hmod := tm (Z i)
    clear hc h tm
    go_enter Try.func26, Try.ntmps26
    go_wp2
    go_ret
    exact ⟨(Z i % m).toNat, by omega, 0, by rw [Int.toNat_of_nonneg hmod.1]; rfl, rfl⟩
  · have g1 : ¬ (i : Int) < len := by omega
    have hmod := tm ((i : Int) * 37 + 11)
    clear h tm
    go_enter Try.func26, Try.ntmps26
    go_wp2
    go_ret
    exact ⟨(((i : Int) * 37 + 11) % m).toNat, by omega, 0, by rw [Int.toNat_of_nonneg hmod.1]; rfl, rfl⟩

-- @has b10Gap
theorem b10Gap_c (a b : Nat) (w : World) : Calls Try.prog 27 #[.float .f64 a, .float .f64 b] w (RetF .f64 (gapC (cl .f64 a) (cl .f64 b)) w) := by
  have tl := tst_lt .f64
  unfold gapC
  cases q : flt .f64 (cl .f64 a) (cl .f64 b)
  all_goals
    go_enter Try.func27, Try.ntmps27
    go_wp2_with (refine wpList_farith _ _ _ _ _ _ rfl rfl _ _ _ rfl rfl rfl ?_; intro b1 n1 h1)
    go_ret
    exact ⟨_, _, rfl, h1, rfl⟩

-- @has Trunc
theorem archTrunc_run (b c : Nat) (h : cl .f64 b = some c) (w : World) : (callFunc 73 #[.float .f64 b]).run Try.prog w = .ok (.value (.float .f64 (FloatKind.f64.format.write ((FloatKind.f64.format.read b).integral .zero)))) w := by
  rw [run_callFunc_extern Try.func73 (e := Extern.MathFloor.toIntegral "math.archTrunc" .zero) (by kernel_rfl) (by kernel_rfl) (by kernel_rfl) (by kernel_rfl), run_integral w _ _ _ _ h]; rfl
theorem trunc_c (b c : Nat) (h : cl .f64 b = some c) (w : World) : Calls Try.prog 68 #[.float .f64 b] w (RetV (.float .f64 (FloatKind.f64.format.write ((FloatKind.f64.format.read b).integral .zero))) w) := by
  have hx := archTrunc_run b c h
  clear h
  go_enter Try.func68, Try.ntmps68
  go_wp2
  go_ret
  exact ⟨0, rfl, rfl⟩

-- @has behind
theorem behind_c (b : Nat) (h : Tur b) (w : World) : Calls Try.prog 49 #[.float .f64 b] w (RetF .f64 (behC b) w) := by
  have tl := tst_lt .f64
  have hb := Lib.hid h.1
  have T := Lib.hid (trunc_add h)
  unfold behC
  cases hq : flt .f64 (fracC b) (cl .f64 0)
  all_goals
    go_enter Try.func49, Try.ntmps49
    go_wp2_with (first | (go_at_call 68; refine (trunc_c _ _ hb.out _).mono ?_; rintro e w1 ⟨m, rfl, rfl⟩) | (refine wpList_farith _ .sub _ _ _ _ rfl rfl _ _ _ rfl rfl rfl ?_; intro m2 n2 g2; rw [g1, T.out, hb.out] at g2; change cl .f64 m2 = fracC b at g2) | (refine wpList_farith _ .add _ _ _ _ rfl rfl _ _ _ rfl rfl rfl ?_; intro m1 n1 g1))
    go_ret
    exact ⟨_, _, rfl, by simp only [*], rfl⟩

-- @has sine
set_option maxHeartbeats 4000000 in
theorem sine_c (b : Nat) (h : Tur b) (w : World) : Calls Try.prog 44 #[.float .f64 b] w (RetF .f64 (sinC b) w) := by
  have tg := tst_gt .f64
  have te := tst_eq .f64
  have tq : ∀ f, fgt .f64 f (cl .f64 4598175219545276416) = sinQ f := fun _ => rfl
  have tt : ∀ f, (fgt .f64 f (cl .f64 4602678819172646912) || feq .f64 f (cl .f64 4602678819172646912)) = sinT f := fun _ => rfl
  obtain ⟨F, hF⟩ : ∃ F, F = behC b := ⟨_, rfl⟩
  obtain ⟨Z, hZ⟩ : ∃ Z, Z = sinZ F := ⟨_, rfl⟩
  have FF := Lib.hid hF
  have ZZ := Lib.hid hZ
  have e : sinC b = if sinT F then negC (sinO Z) else sinO Z := by rw [hZ, hF]; rfl
  rw [e]
  clear hF hZ e
  cases t1 : sinT F
  all_goals cases t2 : sinQ (sinA (sinT F) F)
  all_goals
    rw [t1] at t2
    have E1 := Lib.hid t1
    have E2 := Lib.hid t2
    unfold sinA at t2
    (try simp only [if_true, Bool.false_eq_true, if_false] at t2)
    go_enter Try.func44, Try.ntmps44
    go_wp2_with (first | ((go_at_call 49; refine (behind_c _ h _).mono ?_; rintro e w1 ⟨r, n, rfl, hr, rfl⟩); rw [← FF.out] at hr) | (refine wpList_farith _ .sub _ _ _ _ rfl rfl _ _ _ rfl rfl rfl ?_; intro m1 n1 g1) | (refine wpList_farith _ .mul _ _ _ _ rfl rfl _ _ _ rfl rfl rfl ?_; intro z nz gz; have hz : cl .f64 z = Z := by rw [ZZ.out]; unfold sinZ; rw [E1.out, E2.out]; simp only [sinA, sinB, if_true, if_false, Bool.false_eq_true]; simp only [*]; done) | (refine wpList_farith _ .mul _ _ _ _ rfl rfl _ _ _ rfl rfl rfl ?_; intro u nu gu; have hu : cl .f64 u = sinU Z := by rw [gu, hz]; rfl))
    clear gz gu
    have hu' := Lib.hid hu
    clear hu
    go_loopw [7, 8] (fun p i wr => ∃ j n q : Nat, j ≤ 8 ∧ i = .int .i64 (8 - (j : Int)) ∧ p = .float .f64 q ∧ cl .f64 q = sinP (sinU Z) j ∧ wr = w.drewN n) (fun _ i _ => (intOf i + 2).toNat)
    case atStart => exact ⟨0, _, _, Nat.zero_le _, rfl, rfl, rfl, rfl⟩
    case round =>
      obtain ⟨j, n, q, hj, rfl, rfl, hq, rfl⟩ := hrel
      have hp' := Lib.hid hq
      clear hq
      by_cases hlt : j < 8
      · go_wp2_with (first | (refine wpList_farith _ .mul _ _ _ _ rfl rfl _ _ _ rfl rfl rfl ?_; intro m1 n1 g1) | (refine wpList_farith _ .quo _ _ _ _ rfl rfl _ _ _ rfl rfl rfl ?_; intro m2 n2 g2) | (refine wpList_farith _ .sub _ _ _ _ rfl rfl _ _ _ rfl rfl rfl ?_; intro m3 n3 g3))
        go_roundw
        case rel => exact ⟨j + 1, _, _, by omega, by go_num, rfl, by rw [sin_wrap j hlt] at g2; rw [sinP, ← hp'.out, ← hu'.out]; unfold i2f; simp only [*], rfl⟩
        case measure => simp [intOf]; omega
      · obtain rfl : j = 8 := by omega
        go_wp2_with (refine wpList_farith _ .mul _ _ _ _ rfl rfl _ _ _ rfl rfl rfl ?_; intro o no go; have ho : cl .f64 o = sinO Z := by (rw [go, hz, hp'.out]; rfl))
        all_goals
          go_ret
          exact ⟨_, _, rfl, by simp [cl_neg, ho], rfl⟩

-- @has IsNaN
theorem isNaN_c (b : Nat) (w : World) : Calls Try.prog 66 #[.float .f64 b] w (RetV (.bool (cl .f64 b).isNone) w) := by
  rcases h : cl .f64 b with _ | c
  · go_enter Try.func66, Try.ntmps66
    go_wp2
    go_ret
    exact ⟨0, rfl, rfl⟩
  · have hs := ford_self h
    go_enter Try.func66, Try.ntmps66
    go_wp2
    go_ret
    exact ⟨0, rfl, rfl⟩

-- @has Float64bits
theorem f64bits_run (x : Nat) (w : World) : (callFunc 62 #[.float .f64 x]).run Try.prog w = .ok (.value (.int .u64 x)) w := by
  rw [run_callFunc_extern Try.func62 (e := Extern.MathFloatBits.float64bits) (by kernel_rfl) (by kernel_rfl) (by kernel_rfl) (by kernel_rfl)]; rfl

-- @has Float64frombits
theorem f64from_run (n : Int) (w : World) : (callFunc 56 #[.int .u64 n]).run Try.prog w = .ok (.value (.float .f64 n.toNat)) w := by
  rw [run_callFunc_extern Try.func56 (e := Extern.MathFloatBits.float64frombits) (by kernel_rfl) (by kernel_rfl) (by kernel_rfl) (by kernel_rfl)]; rfl

-- @has Abs
theorem abs_c (b : Nat) (w : World) : Calls Try.prog 43 #[.float .f64 b] w (RetF .f64 (absC (cl .f64 b)) w) := by
  have hx := f64bits_run
  have hy := f64from_run
  go_enter Try.func43, Try.ntmps43
  go_wp2
  go_ret
  exact ⟨_, 0, rfl, by rw [bits_andNot63]; exact cl_abs b, rfl⟩

-- @has IsInf
theorem isInf_c (b c : Nat) (h : cl .f64 b = some c) (w : World) : Calls Try.prog 67 #[.float .f64 b, .int .i64 0] w (RetV (.bool (!isFin .f64 (some c))) w) := by
  have h2 := isInf_eq b c h
  rw [maxFin_eq] at h2
  go_enter Try.func67, Try.ntmps67
  go_wp2_with (go_at_call 43; refine (abs_c _ _).mono ?_; rintro e w' ⟨r, n, rfl, hr, rfl⟩)
  go_ret
  exact ⟨_, rfl, rfl⟩

-- @has finite
theorem finite_c (b : Nat) (w : World) : Calls Try.prog 48 #[.float .f64 b] w (RetV (.bool (isFin .f64 (cl .f64 b))) w) := by
  rcases h : cl .f64 b with _ | c
  · go_enter Try.func48, Try.ntmps48
    go_wp2_with (go_at_call 66; refine (isNaN_c _ _).mono ?_; rintro e w' ⟨n, rfl, rfl⟩)
    go_ret
    exact ⟨_, rfl, rfl⟩
  · cases hf : isFin .f64 (some c)
    all_goals
      go_enter Try.func48, Try.ntmps48
      go_wp2_with (first | (go_at_call 66; refine (isNaN_c _ _).mono ?_; rintro e w' ⟨n, rfl, rfl⟩) | (go_at_call 67; refine (isInf_c _ c h _).mono ?_; rintro e w' ⟨n, rfl, rfl⟩))
      go_ret
      exact ⟨_, rfl, rfl⟩

-- @has NaN
theorem nan_c (w : World) : Calls Try.prog 34 #[] w (RetV (.float .f64 9221120237041090561) w) := by
  have hy := f64from_run
  go_enter Try.func34, Try.ntmps34
  go_wp2
  go_ret
  exact ⟨0, rfl, rfl⟩

-- @has implPhasorOf
theorem sine_k {c : Option Nat} {E : Nat} (m : Nat) (h : cl .f64 m = c) (hl : LeE c E) (hE : E < 1075) (w : World) : Calls Try.prog 44 #[.float .f64 m] w (RetF .f64 (sinK c) w) := by
  rw [sinK_of h (tur_of_le hl hE h)]
  exact sine_c _ (tur_of_le hl hE h) _
theorem implPhasor_nan (b : Nat) (hf : isFin .f64 (cl .f64 b) = false) (w : World) : Calls Try.prog 23 #[.float .f64 b] w (RetC .f32 none none w) := by
  go_enter Try.func23, Try.ntmps23
  go_wp2_with (first | (go_at_call 48; refine (finite_c _ _).mono ?_; rintro e w1 ⟨n, rfl, rfl⟩) | (go_at_call 34; refine (nan_c _).mono ?_; rintro e w1 ⟨n, rfl, rfl⟩) | (refine wpList_narrow _ _ _ _ rfl _ rfl Try.underlying22 (by rw [Try.underlying25]; rfl) rfl (by decide +kernel) ?_; intro b1 n1 h1))
  all_goals
    go_ret
    exact ⟨_, _, _, rfl, by rw [h1]; decide +kernel, by rw [h1]; decide +kernel, rfl⟩
theorem implPhasor_far (b : Nat) (hb : cl .f64 b = some b) (hf : isFin .f64 (cl .f64 b) = true) (h : 1075 * 2 ^ 52 ≤ rung FloatKind.f64.format b) (w : World) : Calls Try.prog 23 #[.float .f64 b] w (RetC .f32 (cl .f32 1065353216) (cl .f32 0) w) := by
  have tg := tst_gt .f64
  have te := tst_eq .f64
  have a1 := (far_abs hb).trans (decide_eq_true h)
  rw [← hb] at a1
  clear h hb
  go_enter Try.func23, Try.ntmps23
  go_wp2_with (first | (go_at_call 48; refine (finite_c _ _).mono ?_; rintro e w1 ⟨n, rfl, rfl⟩) | (go_at_call 43; refine (abs_c _ _).mono ?_; rintro e w1 ⟨r, n, rfl, hr, rfl⟩))
  all_goals
    go_ret
    exact ⟨_, _, _, rfl, rfl, rfl, rfl⟩
set_option maxHeartbeats 4000000 in
theorem implPhasor_c (b j : Nat) (h : Tur b) (hj : First b j) (w : World) : Calls Try.prog 23 #[.float .f64 b] w (RetC .f32 (narrow (phRe b j)) (narrow (phIm b j)) w) := by
  have tg := tst_gt .f64
  have te := tst_eq .f64
  have hf := tur_fin h
  have a1 := (far_abs h.1).trans (decide_eq_false (Nat.not_le_of_lt h.2))
  rw [← h.1] at a1
  have tp : ∀ f, (fgt .f64 f (cl .f64 4598175219545276416) || feq .f64 f (cl .f64 4598175219545276416)) = phG f := fun _ => rfl
  have J := Lib.hid hj
  have PL := Lib.hid (phF_le h hj j (Nat.le_refl _))
  have AL := Lib.hid (phA_le h hj)
  have FT := Lib.hid (ph_fits h hj)
  have hsm := ph_small h hj
  clear hj
  by_cases j1 : (j : Int) = 1
  · rw [(phRe_1 j1).1, (phRe_1 j1).2]
    go_enter Try.func23, Try.ntmps23
    go_wp2_with (first | (go_at_call 48; refine (finite_c _ _).mono ?_; rintro e w1 ⟨n, rfl, rfl⟩) | (go_at_call 43; refine (abs_c _ _).mono ?_; rintro e w1 ⟨r, n, rfl, hr, rfl⟩) | (go_at_call 49; refine (behind_c _ h _).mono ?_; rintro e w1 ⟨r, n, rfl, hf0, rfl⟩))
    go_loopw [4, 5] (fun f q wr => ∃ i n p : Nat, i ≤ j ∧ f = .float .f64 p ∧ cl .f64 p = phF b i ∧ q = .int .i64 (i : Int) ∧ wr = w.drewN n) (fun _ q _ => j - (intOf q).toNat)
    case atStart => exact ⟨0, _, _, Nat.zero_le _, rfl, hf0, rfl, rfl⟩
    case round =>
      obtain ⟨i, n, p, hi, rfl, hq, rfl, rfl⟩ := hrel
      by_cases hlt : i < j
      · have ht : phG (cl .f64 p) = true := by rw [hq]; exact J.out.2 i hlt
        have hq' := Lib.hid hq
        clear hq
        go_wp2_with (refine wpList_farith _ .sub _ _ _ _ rfl rfl _ _ _ rfl rfl rfl ?_; intro m1 n1 g1)
        go_roundw
        case rel => exact ⟨i + 1, _, _, hlt, rfl, by rw [g1, hq'.out]; rfl, by go_num, rfl⟩
        case measure => simp [intOf]; omega
      · obtain rfl : j = i := by omega
        have ht : phG (cl .f64 p) = false := by rw [hq]; exact J.out.1
        have hq' := Lib.hid hq
        clear hq
        go_wp2_with (first | (refine wpList_farith _ .sub _ _ _ _ rfl rfl _ _ _ rfl rfl rfl ?_; intro m nm gm; (have gA : cl .f64 m = phA b j := by (rw [gm, hq'.out]; rfl))) | (refine wpList_farith _ .sub _ _ _ _ rfl rfl _ _ _ rfl rfl rfl ?_; intro d nd gd; (have gs : cl .f64 d = fop .sub .f64 (cl .f64 0) (phSin b j) := by (rw [gd, hs]))) | (refine wpList_farith _ .sub _ _ _ _ rfl rfl _ _ _ rfl rfl rfl ?_; intro e ne ge; (have gc : cl .f64 e = fop .sub .f64 (cl .f64 0) (phCos b j) := by (rw [ge, hc]))) | (go_at_call 44; refine (sine_k (c := phA b j) (E := 1025) _ (by with_reducible exact gA) AL.out (by decide) _).mono ?_; rintro e w1 ⟨c, nc, rfl, hc, rfl⟩; change cl .f64 c = phCos b j at hc) | (go_at_call 44; refine (sine_k (c := phF b j) (E := 1024) _ (by with_reducible exact hq'.out) PL.out (by decide) _).mono ?_; rintro e w1 ⟨s, ns, rfl, hs, rfl⟩; change cl .f64 s = phSin b j at hs) | (refine wpList_narrow _ _ _ _ rfl _ rfl Try.underlying22 (by rw [Try.underlying25]; rfl) rfl (by rw [hc]; exact FT.out.1) ?_; intro xkc nxkc kc; rw [hc] at kc) | (refine wpList_narrow _ _ _ _ rfl _ rfl Try.underlying22 (by rw [Try.underlying25]; rfl) rfl (by rw [hs]; exact FT.out.2.1) ?_; intro xks nxks ks; rw [hs] at ks) | (refine wpList_narrow _ _ _ _ rfl _ rfl Try.underlying22 (by rw [Try.underlying25]; rfl) rfl (by rw [gc]; exact FT.out.2.2.1) ?_; intro xkgc nxkgc kgc; rw [gc] at kgc) | (refine wpList_narrow _ _ _ _ rfl _ rfl Try.underlying22 (by rw [Try.underlying25]; rfl) rfl (by rw [gs]; exact FT.out.2.2.2) ?_; intro xkgs nxkgs kgs; rw [gs] at kgs))
        all_goals
          go_ret
          exact ⟨_, _, _, rfl, by assumption, by assumption, rfl⟩
  by_cases j2 : (j : Int) = 2
  · rw [(phRe_2 j2).1, (phRe_2 j2).2]
    go_enter Try.func23, Try.ntmps23
    go_wp2_with (first | (go_at_call 48; refine (finite_c _ _).mono ?_; rintro e w1 ⟨n, rfl, rfl⟩) | (go_at_call 43; refine (abs_c _ _).mono ?_; rintro e w1 ⟨r, n, rfl, hr, rfl⟩) | (go_at_call 49; refine (behind_c _ h _).mono ?_; rintro e w1 ⟨r, n, rfl, hf0, rfl⟩))
    go_loopw [4, 5] (fun f q wr => ∃ i n p : Nat, i ≤ j ∧ f = .float .f64 p ∧ cl .f64 p = phF b i ∧ q = .int .i64 (i : Int) ∧ wr = w.drewN n) (fun _ q _ => j - (intOf q).toNat)
    case atStart => exact ⟨0, _, _, Nat.zero_le _, rfl, hf0, rfl, rfl⟩
    case round =>
      obtain ⟨i, n, p, hi, rfl, hq, rfl, rfl⟩ := hrel
      by_cases hlt : i < j
      · have ht : phG (cl .f64 p) = true := by rw [hq]; exact J.out.2 i hlt
        have hq' := Lib.hid hq
        clear hq
        go_wp2_with (refine wpList_farith _ .sub _ _ _ _ rfl rfl _ _ _ rfl rfl rfl ?_; intro m1 n1 g1)
        go_roundw
        case rel => exact ⟨i + 1, _, _, hlt, rfl, by rw [g1, hq'.out]; rfl, by go_num, rfl⟩
        case measure => simp [intOf]; omega
      · obtain rfl : j = i := by omega
        have ht : phG (cl .f64 p) = false := by rw [hq]; exact J.out.1
        have hq' := Lib.hid hq
        clear hq
        go_wp2_with (first | (refine wpList_farith _ .sub _ _ _ _ rfl rfl _ _ _ rfl rfl rfl ?_; intro m nm gm; (have gA : cl .f64 m = phA b j := by (rw [gm, hq'.out]; rfl))) | (refine wpList_farith _ .sub _ _ _ _ rfl rfl _ _ _ rfl rfl rfl ?_; intro d nd gd; (have gs : cl .f64 d = fop .sub .f64 (cl .f64 0) (phSin b j) := by (rw [gd, hs]))) | (refine wpList_farith _ .sub _ _ _ _ rfl rfl _ _ _ rfl rfl rfl ?_; intro e ne ge; (have gc : cl .f64 e = fop .sub .f64 (cl .f64 0) (phCos b j) := by (rw [ge, hc]))) | (go_at_call 44; refine (sine_k (c := phA b j) (E := 1025) _ (by with_reducible exact gA) AL.out (by decide) _).mono ?_; rintro e w1 ⟨c, nc, rfl, hc, rfl⟩; change cl .f64 c = phCos b j at hc) | (go_at_call 44; refine (sine_k (c := phF b j) (E := 1024) _ (by with_reducible exact hq'.out) PL.out (by decide) _).mono ?_; rintro e w1 ⟨s, ns, rfl, hs, rfl⟩; change cl .f64 s = phSin b j at hs) | (refine wpList_narrow _ _ _ _ rfl _ rfl Try.underlying22 (by rw [Try.underlying25]; rfl) rfl (by rw [hc]; exact FT.out.1) ?_; intro xkc nxkc kc; rw [hc] at kc) | (refine wpList_narrow _ _ _ _ rfl _ rfl Try.underlying22 (by rw [Try.underlying25]; rfl) rfl (by rw [hs]; exact FT.out.2.1) ?_; intro xks nxks ks; rw [hs] at ks) | (refine wpList_narrow _ _ _ _ rfl _ rfl Try.underlying22 (by rw [Try.underlying25]; rfl) rfl (by rw [gc]; exact FT.out.2.2.1) ?_; intro xkgc nxkgc kgc; rw [gc] at kgc) | (refine wpList_narrow _ _ _ _ rfl _ rfl Try.underlying22 (by rw [Try.underlying25]; rfl) rfl (by rw [gs]; exact FT.out.2.2.2) ?_; intro xkgs nxkgs kgs; rw [gs] at kgs))
        all_goals
          go_ret
          exact ⟨_, _, _, rfl, by assumption, by assumption, rfl⟩
  by_cases j3 : (j : Int) = 3
  · rw [(phRe_3 j3).1, (phRe_3 j3).2]
    go_enter Try.func23, Try.ntmps23
    go_wp2_with (first | (go_at_call 48; refine (finite_c _ _).mono ?_; rintro e w1 ⟨n, rfl, rfl⟩) | (go_at_call 43; refine (abs_c _ _).mono ?_; rintro e w1 ⟨r, n, rfl, hr, rfl⟩) | (go_at_call 49; refine (behind_c _ h _).mono ?_; rintro e w1 ⟨r, n, rfl, hf0, rfl⟩))
    go_loopw [4, 5] (fun f q wr => ∃ i n p : Nat, i ≤ j ∧ f = .float .f64 p ∧ cl .f64 p = phF b i ∧ q = .int .i64 (i : Int) ∧ wr = w.drewN n) (fun _ q _ => j - (intOf q).toNat)
    case atStart => exact ⟨0, _, _, Nat.zero_le _, rfl, hf0, rfl, rfl⟩
    case round =>
      obtain ⟨i, n, p, hi, rfl, hq, rfl, rfl⟩ := hrel
      by_cases hlt : i < j
      · have ht : phG (cl .f64 p) = true := by rw [hq]; exact J.out.2 i hlt
        have hq' := Lib.hid hq
        clear hq
        go_wp2_with (refine wpList_farith _ .sub _ _ _ _ rfl rfl _ _ _ rfl rfl rfl ?_; intro m1 n1 g1)
        go_roundw
        case rel => exact ⟨i + 1, _, _, hlt, rfl, by rw [g1, hq'.out]; rfl, by go_num, rfl⟩
        case measure => simp [intOf]; omega
      · obtain rfl : j = i := by omega
        have ht : phG (cl .f64 p) = false := by rw [hq]; exact J.out.1
        have hq' := Lib.hid hq
        clear hq
        go_wp2_with (first | (refine wpList_farith _ .sub _ _ _ _ rfl rfl _ _ _ rfl rfl rfl ?_; intro m nm gm; (have gA : cl .f64 m = phA b j := by (rw [gm, hq'.out]; rfl))) | (refine wpList_farith _ .sub _ _ _ _ rfl rfl _ _ _ rfl rfl rfl ?_; intro d nd gd; (have gs : cl .f64 d = fop .sub .f64 (cl .f64 0) (phSin b j) := by (rw [gd, hs]))) | (refine wpList_farith _ .sub _ _ _ _ rfl rfl _ _ _ rfl rfl rfl ?_; intro e ne ge; (have gc : cl .f64 e = fop .sub .f64 (cl .f64 0) (phCos b j) := by (rw [ge, hc]))) | (go_at_call 44; refine (sine_k (c := phA b j) (E := 1025) _ (by with_reducible exact gA) AL.out (by decide) _).mono ?_; rintro e w1 ⟨c, nc, rfl, hc, rfl⟩; change cl .f64 c = phCos b j at hc) | (go_at_call 44; refine (sine_k (c := phF b j) (E := 1024) _ (by with_reducible exact hq'.out) PL.out (by decide) _).mono ?_; rintro e w1 ⟨s, ns, rfl, hs, rfl⟩; change cl .f64 s = phSin b j at hs) | (refine wpList_narrow _ _ _ _ rfl _ rfl Try.underlying22 (by rw [Try.underlying25]; rfl) rfl (by rw [hc]; exact FT.out.1) ?_; intro xkc nxkc kc; rw [hc] at kc) | (refine wpList_narrow _ _ _ _ rfl _ rfl Try.underlying22 (by rw [Try.underlying25]; rfl) rfl (by rw [hs]; exact FT.out.2.1) ?_; intro xks nxks ks; rw [hs] at ks) | (refine wpList_narrow _ _ _ _ rfl _ rfl Try.underlying22 (by rw [Try.underlying25]; rfl) rfl (by rw [gc]; exact FT.out.2.2.1) ?_; intro xkgc nxkgc kgc; rw [gc] at kgc) | (refine wpList_narrow _ _ _ _ rfl _ rfl Try.underlying22 (by rw [Try.underlying25]; rfl) rfl (by rw [gs]; exact FT.out.2.2.2) ?_; intro xkgs nxkgs kgs; rw [gs] at kgs))
        all_goals
          go_ret
          exact ⟨_, _, _, rfl, by assumption, by assumption, rfl⟩
  rw [(phRe_0 j1 j2 j3).1, (phRe_0 j1 j2 j3).2]
  go_enter Try.func23, Try.ntmps23
  go_wp2_with (first | (go_at_call 48; refine (finite_c _ _).mono ?_; rintro e w1 ⟨n, rfl, rfl⟩) | (go_at_call 43; refine (abs_c _ _).mono ?_; rintro e w1 ⟨r, n, rfl, hr, rfl⟩) | (go_at_call 49; refine (behind_c _ h _).mono ?_; rintro e w1 ⟨r, n, rfl, hf0, rfl⟩))
  go_loopw [4, 5] (fun f q wr => ∃ i n p : Nat, i ≤ j ∧ f = .float .f64 p ∧ cl .f64 p = phF b i ∧ q = .int .i64 (i : Int) ∧ wr = w.drewN n) (fun _ q _ => j - (intOf q).toNat)
  case atStart => exact ⟨0, _, _, Nat.zero_le _, rfl, hf0, rfl, rfl⟩
  case round =>
    obtain ⟨i, n, p, hi, rfl, hq, rfl, rfl⟩ := hrel
    by_cases hlt : i < j
    · have ht : phG (cl .f64 p) = true := by rw [hq]; exact J.out.2 i hlt
      have hq' := Lib.hid hq
      clear hq
      go_wp2_with (refine wpList_farith _ .sub _ _ _ _ rfl rfl _ _ _ rfl rfl rfl ?_; intro m1 n1 g1)
      go_roundw
      case rel => exact ⟨i + 1, _, _, hlt, rfl, by rw [g1, hq'.out]; rfl, by go_num, rfl⟩
      case measure => simp [intOf]; omega
    · obtain rfl : j = i := by omega
      have ht : phG (cl .f64 p) = false := by rw [hq]; exact J.out.1
      have hq' := Lib.hid hq
      clear hq
      go_wp2_with (first | (refine wpList_farith _ .sub _ _ _ _ rfl rfl _ _ _ rfl rfl rfl ?_; intro m nm gm; (have gA : cl .f64 m = phA b j := by (rw [gm, hq'.out]; rfl))) | (refine wpList_farith _ .sub _ _ _ _ rfl rfl _ _ _ rfl rfl rfl ?_; intro d nd gd; (have gs : cl .f64 d = fop .sub .f64 (cl .f64 0) (phSin b j) := by (rw [gd, hs]))) | (refine wpList_farith _ .sub _ _ _ _ rfl rfl _ _ _ rfl rfl rfl ?_; intro e ne ge; (have gc : cl .f64 e = fop .sub .f64 (cl .f64 0) (phCos b j) := by (rw [ge, hc]))) | (go_at_call 44; refine (sine_k (c := phA b j) (E := 1025) _ (by with_reducible exact gA) AL.out (by decide) _).mono ?_; rintro e w1 ⟨c, nc, rfl, hc, rfl⟩; change cl .f64 c = phCos b j at hc) | (go_at_call 44; refine (sine_k (c := phF b j) (E := 1024) _ (by with_reducible exact hq'.out) PL.out (by decide) _).mono ?_; rintro e w1 ⟨s, ns, rfl, hs, rfl⟩; change cl .f64 s = phSin b j at hs) | (refine wpList_narrow _ _ _ _ rfl _ rfl Try.underlying22 (by rw [Try.underlying25]; rfl) rfl (by rw [hc]; exact FT.out.1) ?_; intro xkc nxkc kc; rw [hc] at kc) | (refine wpList_narrow _ _ _ _ rfl _ rfl Try.underlying22 (by rw [Try.underlying25]; rfl) rfl (by rw [hs]; exact FT.out.2.1) ?_; intro xks nxks ks; rw [hs] at ks) | (refine wpList_narrow _ _ _ _ rfl _ rfl Try.underlying22 (by rw [Try.underlying25]; rfl) rfl (by rw [gc]; exact FT.out.2.2.1) ?_; intro xkgc nxkgc kgc; rw [gc] at kgc) | (refine wpList_narrow _ _ _ _ rfl _ rfl Try.underlying22 (by rw [Try.underlying25]; rfl) rfl (by rw [gs]; exact FT.out.2.2.2) ?_; intro xkgs nxkgs kgs; rw [gs] at kgs))
      all_goals
        go_ret
        exact ⟨_, _, _, rfl, by assumption, by assumption, rfl⟩

-- @has sqrt
theorem sqrt_run (x : Nat) (w : World) : (callFunc 71 #[.float .f64 x]).run Try.prog w = ((Extern.MathSqrt.sqrt #[.float .f64 x]).run Try.prog w).andThen fun v w' => .ok (.value v) w' :=
  run_callFunc_extern Try.func71 (by kernel_rfl) (by kernel_rfl) (by kernel_rfl) (by kernel_rfl) _ _

-- @has Sqrt
theorem Sqrt_c (b : Nat) (w : World) : Calls Try.prog 64 #[.float .f64 b] w (RetF .f64 (fsqrt (cl .f64 b)) w) := by
  go_enter Try.func64, Try.ntmps64
  go_wp2_with (refine wpList_sqrt _ 71 sqrt_run _ _ rfl _ rfl rfl ?_; intro b1 n1 h1)
  go_ret
  exact ⟨_, _, rfl, by assumption, rfl⟩

-- @has implAngle
set_option maxHeartbeats 8000000 in
theorem implAngle_c (y x : Nat) (w : World) : Calls Try.prog 46 #[.float .f64 y, .float .f64 x] w (RetF .f64 (angC (cl .f64 y) (cl .f64 x)) w) := by
  have tg := tst_gt .f64
  have tl := tst_lt .f64
  cases hov : fgt .f64 (absC (cl .f64 y)) (absC (cl .f64 x))
  · go_enter Try.func46, Try.ntmps46
    go_wp2_with (first | (refine wpList_farith _ _ _ _ _ _ rfl rfl _ _ _ rfl rfl rfl ?_; intro b1 n1 h1) | (go_at_call 43; refine (abs_c _ _).mono ?_; rintro e w' ⟨r, n, rfl, hr, rfl⟩))
    go_loopw [7, 25] (fun t i wr => ∃ k n b : Nat, k ≤ 3 ∧ i = .int .i64 k ∧ t = .float .f64 b ∧ cl .f64 b = angT (fop .quo .f64 (absC (cl .f64 y)) (absC (cl .f64 x))) k ∧ wr = w.drewN n) (fun _ i _ => 3 - (intOf i).toNat)
    case atStart => exact ⟨0, _, _, Nat.zero_le _, rfl, rfl, by simp only [*]; rfl, rfl⟩
    case round =>
      obtain ⟨k, n, b, hk, rfl, rfl, hb, rfl⟩ := hrel
      by_cases hlt : k < 3
      · have hb' := Lib.hid hb
        clear hb
        go_wp2_with (first | (refine wpList_farith _ .mul _ _ _ _ rfl rfl _ _ _ rfl rfl rfl ?_; intro m1 n1 g1) | (refine wpList_farith _ .quo _ _ _ _ rfl rfl _ _ _ rfl rfl rfl ?_; intro m4 n4 g4) | (refine wpList_farith _ .add _ _ _ _ rfl rfl _ _ _ rfl rfl rfl ?_; intro m2 n2 g2) | (go_at_call 64; refine (Sqrt_c _ _).mono ?_; rintro e w' ⟨r, m3, rfl, g3, rfl⟩))
        go_roundw
        case rel => exact ⟨k + 1, _, _, by omega, by go_num, rfl, by rw [angT, ← hb'.out]; unfold angStep c1; simp only [*], rfl⟩
        case measure => simp [intOf]; omega
      · obtain rfl : k = 3 := by omega
        have hb' := Lib.hid hb
        clear hb
        go_wp2_with (refine wpList_farith _ _ _ _ _ _ rfl rfl _ _ _ rfl rfl rfl ?_; intro b1 n1 h1)
        have hu : cl .f64 _ = fop .mul .f64 (angT (fop .quo .f64 (absC (cl .f64 y)) (absC (cl .f64 x))) 3) (angT (fop .quo .f64 (absC (cl .f64 y)) (absC (cl .f64 x))) 3) := h1.trans (by rw [hb'.out])
        go_loopw [9, 10] (fun p i wr => ∃ j n b : Nat, j ≤ 8 ∧ i = .int .i64 (15 - 2 * (j : Int)) ∧ p = .float .f64 b ∧ cl .f64 b = angP (fop .mul .f64 (angT (fop .quo .f64 (absC (cl .f64 y)) (absC (cl .f64 x))) 3) (angT (fop .quo .f64 (absC (cl .f64 y)) (absC (cl .f64 x))) 3)) j ∧ wr = w.drewN n) (fun _ i _ => (intOf i + 2).toNat)
        case atStart => exact ⟨0, _, 0, Nat.zero_le _, rfl, rfl, rfl, rfl⟩
        case round =>
          obtain ⟨j, n, p, hj, rfl, rfl, hp, rfl⟩ := hrel
          have hp' := Lib.hid hp
          have hu' := Lib.hid hu
          clear hp hu
          by_cases hlt : j < 8
          · go_wp2_with (first | (refine wpList_farith _ .quo _ _ _ _ rfl rfl _ _ _ rfl rfl rfl ?_; intro m1 n1 g1) | (refine wpList_farith _ .mul _ _ _ _ rfl rfl _ _ _ rfl rfl rfl ?_; intro m2 n2 g2) | (refine wpList_farith _ .sub _ _ _ _ rfl rfl _ _ _ rfl rfl rfl ?_; intro m3 n3 g3))
            go_roundw
            case rel => exact ⟨j + 1, _, _, by omega, by go_num, rfl, by rw [angP, ← hp'.out, ← hu'.out]; unfold i2f c1; simp only [*], rfl⟩
            case measure => simp [intOf]; omega
          · obtain rfl : j = 8 := by omega
            go_wp2_with (refine wpList_farith _ _ _ _ _ _ rfl rfl _ _ _ rfl rfl rfl ?_; intro b1 n1 h1)
            all_goals
              go_ret
              refine ⟨_, _, rfl, ?_, rfl⟩
              unfold angC
              simp only [hov, if_false, Bool.false_eq_true]
              unfold angOut
              rw [← hp'.out, ← hb'.out]
              simp [angTurn, cl_neg, *]
  · go_enter Try.func46, Try.ntmps46
    go_wp2_with (first | (refine wpList_farith _ _ _ _ _ _ rfl rfl _ _ _ rfl rfl rfl ?_; intro b1 n1 h1) | (go_at_call 43; refine (abs_c _ _).mono ?_; rintro e w' ⟨r, n, rfl, hr, rfl⟩))
    go_loopw [7, 25] (fun t i wr => ∃ k n b : Nat, k ≤ 3 ∧ i = .int .i64 k ∧ t = .float .f64 b ∧ cl .f64 b = angT (fop .quo .f64 (absC (cl .f64 x)) (absC (cl .f64 y))) k ∧ wr = w.drewN n) (fun _ i _ => 3 - (intOf i).toNat)
    case atStart => exact ⟨0, _, _, Nat.zero_le _, rfl, rfl, by simp only [*]; rfl, rfl⟩
    case round =>
      obtain ⟨k, n, b, hk, rfl, rfl, hb, rfl⟩ := hrel
      by_cases hlt : k < 3
      · have hb' := Lib.hid hb
        clear hb
        go_wp2_with (first | (refine wpList_farith _ .mul _ _ _ _ rfl rfl _ _ _ rfl rfl rfl ?_; intro m1 n1 g1) | (refine wpList_farith _ .quo _ _ _ _ rfl rfl _ _ _ rfl rfl rfl ?_; intro m4 n4 g4) | (refine wpList_farith _ .add _ _ _ _ rfl rfl _ _ _ rfl rfl rfl ?_; intro m2 n2 g2) | (go_at_call 64; refine (Sqrt_c _ _).mono ?_; rintro e w' ⟨r, m3, rfl, g3, rfl⟩))
        go_roundw
        case rel => exact ⟨k + 1, _, _, by omega, by go_num, rfl, by rw [angT, ← hb'.out]; unfold angStep c1; simp only [*], rfl⟩
        case measure => simp [intOf]; omega
      · obtain rfl : k = 3 := by omega
        have hb' := Lib.hid hb
        clear hb
        go_wp2_with (refine wpList_farith _ _ _ _ _ _ rfl rfl _ _ _ rfl rfl rfl ?_; intro b1 n1 h1)
        have hu : cl .f64 _ = fop .mul .f64 (angT (fop .quo .f64 (absC (cl .f64 x)) (absC (cl .f64 y))) 3) (angT (fop .quo .f64 (absC (cl .f64 x)) (absC (cl .f64 y))) 3) := h1.trans (by rw [hb'.out])
        go_loopw [9, 10] (fun p i wr => ∃ j n b : Nat, j ≤ 8 ∧ i = .int .i64 (15 - 2 * (j : Int)) ∧ p = .float .f64 b ∧ cl .f64 b = angP (fop .mul .f64 (angT (fop .quo .f64 (absC (cl .f64 x)) (absC (cl .f64 y))) 3) (angT (fop .quo .f64 (absC (cl .f64 x)) (absC (cl .f64 y))) 3)) j ∧ wr = w.drewN n) (fun _ i _ => (intOf i + 2).toNat)
        case atStart => exact ⟨0, _, 0, Nat.zero_le _, rfl, rfl, rfl, rfl⟩
        case round =>
          obtain ⟨j, n, p, hj, rfl, rfl, hp, rfl⟩ := hrel
          have hp' := Lib.hid hp
          have hu' := Lib.hid hu
          clear hp hu
          by_cases hlt : j < 8
          · go_wp2_with (first | (refine wpList_farith _ .quo _ _ _ _ rfl rfl _ _ _ rfl rfl rfl ?_; intro m1 n1 g1) | (refine wpList_farith _ .mul _ _ _ _ rfl rfl _ _ _ rfl rfl rfl ?_; intro m2 n2 g2) | (refine wpList_farith _ .sub _ _ _ _ rfl rfl _ _ _ rfl rfl rfl ?_; intro m3 n3 g3))
            go_roundw
            case rel => exact ⟨j + 1, _, _, by omega, by go_num, rfl, by rw [angP, ← hp'.out, ← hu'.out]; unfold i2f c1; simp only [*], rfl⟩
            case measure => simp [intOf]; omega
          · obtain rfl : j = 8 := by omega
            go_wp2_with (refine wpList_farith _ _ _ _ _ _ rfl rfl _ _ _ rfl rfl rfl ?_; intro b1 n1 h1)
            all_goals
              go_ret
              refine ⟨_, _, rfl, ?_, rfl⟩
              unfold angC
              simp only [hov, if_true]
              unfold angOut
              rw [← hp'.out, ← hb'.out]
              simp [angTurn, cl_neg, *]

-- @has implIsFinite
theorem implIsFinite_c (b : Nat) (w : World) : Calls Try.prog 36 #[.float .f32 b] w (RetV (.bool (isFin .f32 (cl .f32 b))) w) := by
  have hw := isFin_widen b
  go_enter Try.func36, Try.ntmps36
  go_wp2_with (first | (refine wpList_widen _ _ _ _ rfl _ rfl Try.underlying25 (by rw [Try.underlying22]; rfl) rfl ?_; intro b1 n1 h1) | (go_at_call 48; refine (finite_c _ _).mono ?_; rintro e w' ⟨n, rfl, rfl⟩))
  go_ret
  exact ⟨_, rfl, rfl⟩

-- @has implAngleTurns
theorem implAngleTurns_c (y x : Nat) (w : World) : Calls Try.prog 21 #[.float .f32 y, .float .f32 x] w (RetF .f32 (angR (cl .f32 y) (cl .f32 x)) w) := by
  have te := tst_eq .f32
  unfold angR
  cases fy : isFin .f32 (cl .f32 y)
  · go_enter Try.func21, Try.ntmps21
    go_wp2_with (first | (go_at_call 36; refine (implIsFinite_c _ _).mono ?_; rintro e w1 ⟨n, rfl, rfl⟩) | (go_at_call 34; refine (nan_c _).mono ?_; rintro e w1 ⟨n, rfl, rfl⟩) | (refine wpList_narrow _ _ _ _ rfl _ rfl Try.underlying22 (by rw [Try.underlying25]; rfl) rfl (by decide +kernel) ?_; intro b1 n1 h1))
    go_ret
    exact ⟨_, _, rfl, by rw [h1]; decide +kernel, rfl⟩
  cases fx : isFin .f32 (cl .f32 x)
  · go_enter Try.func21, Try.ntmps21
    go_wp2_with (first | (go_at_call 36; refine (implIsFinite_c _ _).mono ?_; rintro e w1 ⟨n, rfl, rfl⟩) | (go_at_call 34; refine (nan_c _).mono ?_; rintro e w1 ⟨n, rfl, rfl⟩) | (refine wpList_narrow _ _ _ _ rfl _ rfl Try.underlying22 (by rw [Try.underlying25]; rfl) rfl (by decide +kernel) ?_; intro b1 n1 h1))
    go_ret
    exact ⟨_, _, rfl, by rw [h1]; decide +kernel, rfl⟩
  rw [if_pos (by rfl)]
  cases zx : feq .f32 (cl .f32 x) (cl .f32 0)
  all_goals cases zy : feq .f32 (cl .f32 y) (cl .f32 0)
  case true.true =>
    go_enter Try.func21, Try.ntmps21
    go_wp2_with (go_at_call 36; refine (implIsFinite_c _ _).mono ?_; rintro e w1 ⟨n, rfl, rfl⟩)
    go_ret
    exact ⟨_, _, rfl, rfl, rfl⟩
  all_goals
    rw [if_neg (by decide)]
    have F := Lib.hid (ang_fits y x fy fx (by rw [zx, zy]; decide))
    go_enter Try.func21, Try.ntmps21
    go_wp2_with (first | (go_at_call 36; refine (implIsFinite_c _ _).mono ?_; rintro e w1 ⟨n, rfl, rfl⟩) | (refine wpList_widen _ _ _ _ rfl _ rfl Try.underlying25 (by rw [Try.underlying22]; rfl) rfl ?_; intro b1 n1 h1) | (go_at_call 46; refine (implAngle_c _ _ _).mono ?_; rintro e w1 ⟨r, n, rfl, hr, rfl⟩) | (refine wpList_narrow _ _ _ _ rfl _ rfl Try.underlying22 (by rw [Try.underlying25]; rfl) rfl (by simp only [*]; exact F.out) ?_; intro b1 n1 h1))
    go_ret
    exact ⟨_, _, rfl, by simp only [*], rfl⟩

-- @has implAngleOf
theorem implAngleOf_c (re im : Nat) (w : World) : Calls Try.prog 28 #[.complex .f32 re im] w (RetF .f32 (angR (cl .f32 im) (cl .f32 re)) w) := by
  go_enter Try.func28, Try.ntmps28
  go_wp2_with (go_at_call 21; refine (implAngleTurns_c _ _ _).mono ?_; rintro e w1 ⟨r, n, rfl, hr, rfl⟩)
  go_ret
  exact ⟨_, _, rfl, hr, rfl⟩

-- @has implParts
theorem implParts_c (a b : Nat) (w : World) : Calls Try.prog 51 #[.complex .f32 a b] w fun e w' => ∃ x y n, e = .returned (.tuple #[.float .f64 x, .float .f64 y]) ∧ cl .f64 x = widen (cl .f32 a) ∧ cl .f64 y = widen (cl .f32 b) ∧ w' = w.drewN n := by
  go_enter Try.func51, Try.ntmps51
  go_wp2_with (refine wpList_widen _ _ _ _ rfl _ rfl Try.underlying25 (by rw [Try.underlying22]; rfl) rfl ?_; intro b1 n1 h1)
  go_ret2
  exact ⟨_, _, _, rfl, by simp only [*], by simp only [*], rfl⟩

-- @has implpowerOf
theorem implpowerOf_c (a b : Nat) (w : World) : Calls Try.prog 50 #[.complex .f32 a b] w (RetF .f64 (powC (widen (cl .f32 a)) (widen (cl .f32 b))) w) := by
  unfold powC
  go_enter Try.func50, Try.ntmps50
  go_wp2_with (first | (go_at_call 51; refine (implParts_c _ _ _).mono ?_; rintro e w1 ⟨x, y, n, rfl, hx, hy, rfl⟩) | (refine wpList_farith _ _ _ _ _ _ rfl rfl _ _ _ rfl rfl rfl ?_; intro b1 n1 h1))
  go_ret
  exact ⟨_, _, rfl, by simp only [*], rfl⟩

-- @has implPowerOf
theorem implPowerOf_c (a b : Nat) (hf : fits (powC (widen (cl .f32 a)) (widen (cl .f32 b))) = true) (w : World) : Calls Try.prog 29 #[.complex .f32 a b] w (RetF .f32 (narrow (powC (widen (cl .f32 a)) (widen (cl .f32 b)))) w) := by
  have H := Lib.hid hf
  clear hf
  go_enter Try.func29, Try.ntmps29
  go_wp2_with (first | (go_at_call 50; refine (implpowerOf_c _ _ _).mono ?_; rintro e w1 ⟨x, n, rfl, hx, rfl⟩) | (refine wpList_narrow _ _ _ _ rfl _ rfl Try.underlying22 (by rw [Try.underlying25]; rfl) rfl (by simp only [*]; exact H.out) ?_; intro b1 n1 h1))
  go_ret
  exact ⟨_, _, rfl, by simp only [*], rfl⟩

-- @has implProduct
theorem implProduct_c (a b c d : Nat) (w : World) : Calls Try.prog 52 #[.float .f64 a, .float .f64 b, .float .f64 c, .float .f64 d] w fun e w' => ∃ x y n, e = .returned (.tuple #[.float .f64 x, .float .f64 y]) ∧ cl .f64 x = mulRe (cl .f64 a) (cl .f64 b) (cl .f64 c) (cl .f64 d) ∧ cl .f64 y = mulIm (cl .f64 a) (cl .f64 b) (cl .f64 c) (cl .f64 d) ∧ w' = w.drewN n := by
  unfold mulRe mulIm
  go_enter Try.func52, Try.ntmps52
  go_wp2_with (refine wpList_farith _ _ _ _ _ _ rfl rfl _ _ _ rfl rfl rfl ?_; intro b1 n1 h1)
  go_ret2
  exact ⟨_, _, _, rfl, by simp only [*], by simp only [*], rfl⟩

-- @has implMulComplex
theorem implMulComplex_c (a b c d : Nat) (h1 : fits (mulRe (widen (cl .f32 a)) (widen (cl .f32 b)) (widen (cl .f32 c)) (widen (cl .f32 d))) = true) (h2 : fits (mulIm (widen (cl .f32 a)) (widen (cl .f32 b)) (widen (cl .f32 c)) (widen (cl .f32 d))) = true) (w : World) :
    Calls Try.prog 31 #[.complex .f32 a b, .complex .f32 c d] w (RetC .f32 (narrow (mulRe (widen (cl .f32 a)) (widen (cl .f32 b)) (widen (cl .f32 c)) (widen (cl .f32 d)))) (narrow (mulIm (widen (cl .f32 a)) (widen (cl .f32 b)) (widen (cl .f32 c)) (widen (cl .f32 d)))) w) := by
  have H1 := Lib.hid h1
  have H2 := Lib.hid h2
  clear h1 h2
  go_enter Try.func31, Try.ntmps31
  go_wp2_with (first | (go_at_call 51; refine (implParts_c _ _ _).mono ?_; rintro e w1 ⟨x, y, n, rfl, hx, hy, rfl⟩) | (go_at_call 52; refine (implProduct_c _ _ _ _ _).mono ?_; rintro e w1 ⟨p, q, m, rfl, hp, hq, rfl⟩) | (refine wpList_narrow _ _ _ _ rfl _ rfl Try.underlying22 (by rw [Try.underlying25]; rfl) rfl (by simp only [*]; first | exact H1.out | exact H2.out) ?_; intro b1 n1 h1))
  go_ret
  exact ⟨_, _, _, rfl, by simp only [*], by simp only [*], rfl⟩

-- @has naturalLog
set_option maxHeartbeats 4000000 in
theorem naturalLog_c (r : Nat) (h : LogOk r) (w : World) : Calls Try.prog 57 #[.float .f64 r] w (RetF .f64 (logC r) w) := by
  have tg := tst_gt .f64
  have tl := tst_lt .f64
  have te := tst_eq .f64
  obtain ⟨SE, hSE⟩ : ∃ f, f = stepE := ⟨_, rfl⟩
  obtain ⟨SD, hSD⟩ : ∃ f, f = stepD := ⟨_, rfl⟩
  obtain ⟨TP, hTP⟩ : ∃ n, n = top64 := ⟨_, rfl⟩
  have fE0 : Hid (r = SE r 0) := Lib.hid (by rw [hSE]; exact stepE_zero r)
  have fEe : Hid (SE r (logE r) = logA r) := Lib.hid (by rw [hSE]; exact stepE_end r)
  have fD0 : Hid (logA r = SD r 0) := Lib.hid (by rw [hSD]; exact stepD_zero r)
  have fDe : Hid (SD r (logD r) = logW r) := Lib.hid (by rw [hSD]; exact stepD_end r)
  have fge := Lib.hid fun k hk => stepE_ge (k := k) h hk
  have flt := Lib.hid fun k hk => stepD_lt (k := k) h hk
  have fhalf := Lib.hid fun k b hk hb => stepE_half (k := k) (b := b) h hk hb
  have fdbl := Lib.hid fun k b hk hb => stepD_dbl (k := k) (b := b) h hk hb
  have fdown := Lib.hid fun k hk => stepE_down (k := k) h hk
  have fup := Lib.hid fun k hk => stepD_up (k := k) h hk
  rw [← hSE] at fge fhalf fdown
  rw [← hSD] at flt fdbl fup
  rw [← hTP] at fup
  clear hSE hSD hTP
  go_enter Try.func57, Try.ntmps57
  go_wp2_with (refine wpList_farith _ _ _ _ _ _ rfl rfl _ _ _ rfl rfl rfl ?_; intro b1 n1 h1)
  go_loopw [0, 3] (fun y e wr => ∃ k n b : Nat, k ≤ logE r ∧ y = .float .f64 (SE r k) ∧ e = .float .f64 b ∧ cl .f64 b = i2f ((k : Nat) : Int) ∧ wr = w.drewN n) (fun y _ _ => fbits y)
  case atStart => exact ⟨0, 0, 0, Nat.zero_le _, congrArg (Value.float .f64) fE0.out, rfl, zero_cl, rfl⟩
  case round =>
    obtain ⟨k, n, b, hk, rfl, rfl, hb, rfl⟩ := hrel
    have ht := fge.out k hk
    by_cases hlt : k < logE r
    · rw [decide_eq_true hlt] at ht
      have hb' := Lib.hid hb; clear hb
      go_wp2_with (first | (refine wpList_farith _ .quo _ _ _ _ rfl rfl _ _ _ rfl rfl rfl ?_; intro m0 n0 g0) | (refine wpList_farith _ .add _ _ _ _ rfl rfl _ _ _ rfl rfl rfl ?_; intro m1 n1 g1))
      obtain rfl := fhalf.out k _ hlt g0
      go_roundw
      case rel => exact ⟨k + 1, _, _, hlt, rfl, rfl, by rw [g1, hb'.out]; exact i2f_up1 h hlt, rfl⟩
      case measure => exact fdown.out k hlt
    · obtain rfl : k = logE r := by omega
      rw [decide_eq_false hlt] at ht
      have hb' := Lib.hid hb; clear hb
      go_wp2_with fail
      go_loopw [0, 3] (fun y e wr => ∃ k n b : Nat, k ≤ logD r ∧ y = .float .f64 (SD r k) ∧ e = .float .f64 b ∧ cl .f64 b = i2f ((logE r : Int) - ((k : Nat) : Int)) ∧ wr = w.drewN n) (fun y _ _ => TP - fbits y)
      case atStart => exact ⟨0, _, b, Nat.zero_le _, congrArg (Value.float .f64) (fEe.out.trans fD0.out), rfl, by rw [hb'.out]; exact congrArg i2f (by omega), rfl⟩
      case round =>
        clear ht
        obtain ⟨k, n, b2, hk, rfl, rfl, hb2, rfl⟩ := hrel
        have ht := flt.out k hk
        by_cases hlt : k < logD r
        · rw [decide_eq_true hlt] at ht
          have hb2' := Lib.hid hb2; clear hb2
          go_wp2_with (first | (refine wpList_farith _ .mul _ _ _ _ rfl rfl _ _ _ rfl rfl rfl ?_; intro m0 n0 g0) | (refine wpList_farith _ .sub _ _ _ _ rfl rfl _ _ _ rfl rfl rfl ?_; intro m1 n1 g1))
          obtain rfl := fdbl.out k _ hlt g0
          go_roundw
          case rel => exact ⟨k + 1, _, _, hlt, rfl, rfl, by rw [g1, hb2'.out]; exact i2f_sub1 h hlt, rfl⟩
          case measure => exact fup.out k hlt
        · obtain rfl : k = logD r := by omega
          rw [decide_eq_false hlt] at ht
          have hb2' := Lib.hid hb2; clear hb2
          have hW : SD r (logD r) = logW r := fDe.out
          rw [hW] at ht
          go_wp2_with (first | (refine wpList_farith _ .sub _ _ _ _ rfl rfl _ _ _ rfl rfl rfl ?_; intro m0 n0 g0) | (refine wpList_farith _ .add _ _ _ _ rfl rfl _ _ _ rfl rfl rfl ?_; intro m1 n1 g1) | (refine wpList_farith _ .quo _ _ _ _ rfl rfl _ _ _ rfl rfl rfl ?_; intro m2 n2 g2) | (refine wpList_farith _ .mul _ _ _ _ rfl rfl _ _ _ rfl rfl rfl ?_; intro m3 n3 g3))
          (try simp only [hW] at g0)
          (try simp only [hW] at g1)
          have hS : cl .f64 m2 = logS (cl .f64 (logW r)) := by rw [g2, g0, g1]; rfl
          have hU : cl .f64 m3 = fop .mul .f64 (logS (cl .f64 (logW r))) (logS (cl .f64 (logW r))) := by rw [g3, hS]
          have hS' := Lib.hid hS
          have hU' := Lib.hid hU
          clear hS hU g0 g1 g2 g3
          go_loopw [6, 7] (fun q i wr => ∃ j n b : Nat, j ≤ 13 ∧ i = .int .i64 (25 - 2 * (j : Int)) ∧ q = .float .f64 b ∧ cl .f64 b = logP (fop .mul .f64 (logS (cl .f64 (logW r))) (logS (cl .f64 (logW r)))) j ∧ wr = w.drewN n) (fun _ i _ => (intOf i + 2).toNat)
          case atStart => exact ⟨0, _, 0, Nat.zero_le _, rfl, rfl, rfl, rfl⟩
          case round =>
            obtain ⟨j, n, q, hj, rfl, rfl, hq, rfl⟩ := hrel
            have hq' := Lib.hid hq
            clear hq
            by_cases hlt : j < 13
            · go_wp2_with (first | (refine wpList_farith _ .quo _ _ _ _ rfl rfl _ _ _ rfl rfl rfl ?_; intro m0 n0 g0) | (refine wpList_farith _ .mul _ _ _ _ rfl rfl _ _ _ rfl rfl rfl ?_; intro m1 n1 g1) | (refine wpList_farith _ .add _ _ _ _ rfl rfl _ _ _ rfl rfl rfl ?_; intro m2 n2 g2))
              go_roundw
              case rel => exact ⟨j + 1, _, _, by omega, by go_num, rfl, by rw [logP, ← hq'.out, ← hU'.out]; unfold i2f c1; simp only [*], rfl⟩
              case measure => simp [intOf]; omega
            · obtain rfl : j = 13 := by omega
              go_wp2_with (refine wpList_farith _ _ _ _ _ _ rfl rfl _ _ _ rfl rfl rfl ?_; intro b1 n1 h1)
              go_ret
              refine ⟨_, _, rfl, ?_, rfl⟩
              unfold logC logOut
              rw [← hb2'.out, ← hq'.out, ← hS'.out]
              simp only [*]

-- @has logarithm
theorem logarithm_c (a d : Nat) (hd : widen (cl .f32 a) = some d) (h : LogOk d) (w : World) : Calls Try.prog 37 #[.float .f32 a] w (RetF .f64 (logC d) w) := by
  have H := Lib.hid hd
  clear hd
  go_enter Try.func37, Try.ntmps37
  go_wp2_with (refine wpList_widen _ _ _ _ rfl _ rfl Try.underlying25 (by rw [Try.underlying22]; rfl) rfl ?_; intro b1 n1 h1)
  rw [H.out] at h1
  obtain ⟨rfl, -⟩ := cl_some h1
  refine (naturalLog_c _ h _).mono ?_
  rintro e w1 ⟨r, n, rfl, hr, rfl⟩
  go_wp2_with fail
  go_ret
  exact ⟨_, _, rfl, hr, rfl⟩

-- @has Floor
theorem archFloor_run (b c : Nat) (h : cl .f64 b = some c) (w : World) : (callFunc 59 #[.float .f64 b]).run Try.prog w = .ok (.value (.float .f64 (FloatKind.f64.format.write ((FloatKind.f64.format.read b).integral .down)))) w := by
  rw [run_callFunc_extern Try.func59 (e := Extern.MathFloor.toIntegral "math.archFloor" .down) (by kernel_rfl) (by kernel_rfl) (by kernel_rfl) (by kernel_rfl), run_integral w _ _ _ _ h]; rfl
theorem floor_c (b c : Nat) (h : cl .f64 b = some c) (w : World) : Calls Try.prog 41 #[.float .f64 b] w (RetV (.float .f64 (FloatKind.f64.format.write ((FloatKind.f64.format.read b).integral .down))) w) := by
  have hx := archFloor_run b c h
  clear h
  go_enter Try.func41, Try.ntmps41
  go_wp2
  go_ret
  exact ⟨0, rfl, rfl⟩

-- @has implTenthsOf
theorem implTenthsOf_c (a : Nat) (w : World) : Calls Try.prog 17 #[.float .f32 a] w (RetV (.tuple #[.int .i64 (tenR (cl .f32 a)).1, .bool (tenR (cl .f32 a)).2]) w) := by
  have tl := tst_lt .f32
  have te := tst_eq .f32
  cases hf : isFin .f32 (cl .f32 a)
  case false =>
    rw [tenR_no (.inl hf)]
    go_enter Try.func17, Try.ntmps17
    go_wp2_with (go_at_call 36; refine (implIsFinite_c _ _).mono ?_; rintro e w1 ⟨n, rfl, rfl⟩)
    all_goals
      go_ret2
      exact ⟨_, rfl, rfl⟩
  cases hl : (flt .f32 (cl .f32 a) (cl .f32 0) || feq .f32 (cl .f32 a) (cl .f32 0))
  case true =>
    rw [tenR_no (.inr hl)]
    go_enter Try.func17, Try.ntmps17
    go_wp2_with (go_at_call 36; refine (implIsFinite_c _ _).mono ?_; rintro e w1 ⟨n, rfl, rfl⟩)
    all_goals
      go_ret2
      exact ⟨_, rfl, rfl⟩
  obtain ⟨d, hd, hL, hr⟩ := tenR_yes hf hl
  rw [hr]
  have D := Lib.hid hd
  have T := Lib.hid (fun x => floI_word (x := x) (ten_le hL))
  obtain ⟨y, hy, -⟩ := ten_le hL
  have Y := Lib.hid hy
  clear hd hy hr
  go_enter Try.func17, Try.ntmps17
  go_wp2_with (first | (go_at_call 36; refine (implIsFinite_c _ _).mono ?_; rintro e w1 ⟨n, rfl, rfl⟩) | (go_at_call 37; refine (logarithm_c _ _ D.out hL _).mono ?_; rintro e w1 ⟨r, n, rfl, hr, rfl⟩) | (refine wpList_farith _ .mul _ _ _ _ rfl rfl _ _ _ rfl rfl rfl ?_; intro m1 n1 g1) | (refine wpList_farith _ .add _ _ _ _ rfl rfl _ _ _ rfl rfl rfl ?_; intro m2 n2 g2) | (go_at_call 41; refine (floor_c _ _ (g2.trans (by rw [g1, hr]; exact Y.out)) _).mono ?_; rintro e w1 ⟨m, rfl, rfl⟩) | (refine wpList_f2i _ _ _ _ rfl _ rfl Try.underlying2 (by rw [Try.underlying25]; rfl) rfl _ (T.out _ (g2.trans (by rw [g1, hr]; rfl))).1 (T.out _ (g2.trans (by rw [g1, hr]; rfl))).2 ?_))
  all_goals
    go_ret2
    exact ⟨_, rfl, rfl⟩

-- @has Float32bits
theorem f32bits_run (x : Nat) (w : World) : (callFunc 75 #[.float .f32 x]).run Try.prog w = .ok (.value (.int .u32 x)) w := by
  rw [run_callFunc_extern Try.func75 (e := Extern.MathFloatBits.float32bits) (by kernel_rfl) (by kernel_rfl) (by kernel_rfl) (by kernel_rfl)]; rfl

-- @has l01Bits
theorem l01Bits_c (b : Nat) (hb : WfC .f32 (cl .f32 b)) (w : World) :
    Calls Try.prog 69 #[.float .f32 b] w (RetV (.int .i64 (bitsC (cl .f32 b))) w) := by
  have hx := f32bits_run
  rcases h : cl .f32 b with _ | c
  · go_enter Try.func69, Try.ntmps69
    go_wp2
    go_ret
    exact ⟨0, rfl, rfl⟩
  · have hs := ford_self h
    obtain ⟨rfl, -⟩ := cl_some h
    have hb' : b < 2 ^ 32 := hb _ h
    clear hb
    go_enter Try.func69, Try.ntmps69
    go_wp2
    go_ret
    exact ⟨0, rfl, rfl⟩

-- @has l01Same
theorem l01Same_c (a b : Nat) (ha : WfC .f32 (cl .f32 a)) (hb : WfC .f32 (cl .f32 b)) (w : World) : Calls Try.prog 53 #[.float .f32 a, .float .f32 b] w (RetV (.bool (decide (cl .f32 a = cl .f32 b))) w) := by
  have hs := bitsC_same a b
  go_enter Try.func53, Try.ntmps53
  go_wp2_with (go_at_call 69; refine (l01Bits_c _ (by assumption) _).mono ?_; rintro e w' ⟨m, rfl, rfl⟩)
  go_ret
  exact ⟨_, rfl, rfl⟩

-- @has specSameNumber
theorem specSameNumber_c (a b : Nat) (ha : WfC .f32 (cl .f32 a)) (hb : WfC .f32 (cl .f32 b)) (w : World) : Calls Try.prog 32 #[.float .f32 a, .float .f32 b] w (RetV (.bool (decide (cl .f32 a = cl .f32 b))) w) := by
  go_enter Try.func32, Try.ntmps32
  go_wp2_with (go_at_call 53; refine (l01Same_c _ _ ha hb _).mono ?_; rintro e w' ⟨m, rfl, rfl⟩)
  go_ret
  exact ⟨_, rfl, rfl⟩

end Go.Proofs.Ytabacjajikiaoaa
