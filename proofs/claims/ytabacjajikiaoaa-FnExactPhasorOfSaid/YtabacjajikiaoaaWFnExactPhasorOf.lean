/- Contracts of Go functions: what each returns, as a class of words, whatever the world. -/
import Derived.Test.YtabacjajikiaoaaPha
import Derived.Test.YtabacjajikiaoaaProg
import Derived.BigQuiet
import Derived.Deep.QuietTactic
import Derived.Deep.RegionHeld3
import Derived.Deep.DeepFit
import Derived.WalkSpells
import Derived.Lib.Hide
import Derived.WalkSmall
import Derived.Deep.DeepCutAuto
namespace Go.Proofs.Ytabacjajikiaoaa
open Go.RowKit Go.Fl

-- @has Float64frombits
theorem f64from_run (n : Int) (w : World) : (callFunc 56 #[.int .u64 n]).run Try.prog w = .ok (.value (.float .f64 n.toNat)) w := by
  rw [run_callFunc_extern Try.func56 (e := Extern.MathFloatBits.float64frombits) (by kernel_rfl) (by kernel_rfl) (by kernel_rfl) (by kernel_rfl)]; rfl

-- @has NaN
theorem nan_c (w : World) : Calls Try.prog 34 #[] w (RetV (.float .f64 9221120237041090561) w) := by
  have hy := f64from_run
  go_enter Try.func34, Try.ntmps34
  go_wp2
  go_ret
  exact ⟨0, rfl, rfl⟩

-- @has specSineWide
theorem sineWide_far (b : Nat) (hb : cl .f64 b = some b) (hf : isFin .f64 (cl .f64 b) = true) (h : 1075 * 2 ^ 52 ≤ rung FloatKind.f64.format b) (w : World) : Calls Try.prog 61 #[.float .f64 b] w (RetF .f64 (cl .f64 0) w) := by
  have tg := tst_gt .f64
  have tl := tst_lt .f64
  have te := tst_eq .f64
  have sy := sub_self_eq .f64 b
  rw [hf] at sy
  have ny : (ford .f64 (fop .sub .f64 (cl .f64 b) (cl .f64 b)) (cl .f64 0) != some .eq) = false := by rw [bne, sy]; rfl
  have a1 := far_hi hb
  have a2 := far_lo hb
  rw [hb] at ny
  clear sy hf
  rcases far_split h with h1 | ⟨h1, h2⟩
  · rw [decide_eq_true h1] at a1
    clear h h1 a2
    go_enter Try.func61, Try.ntmps61
    go_wp2_with (refine wpList_farith _ _ _ _ _ _ rfl rfl _ _ _ rfl rfl rfl ?_; intro b1 n1 h1)
    all_goals
      go_ret
      exact ⟨_, _, rfl, rfl, rfl⟩
  · rw [decide_eq_false h1] at a1
    rw [decide_eq_true h2] at a2
    clear h h1 h2
    go_enter Try.func61, Try.ntmps61
    go_wp2_with (refine wpList_farith _ _ _ _ _ _ rfl rfl _ _ _ rfl rfl rfl ?_; intro b1 n1 h1)
    all_goals
      go_ret
      exact ⟨_, _, rfl, rfl, rfl⟩
theorem sineWide_nan (b : Nat) (hf : isFin .f64 (cl .f64 b) = false) (w : World) : Calls Try.prog 61 #[.float .f64 b] w (RetF .f64 none w) := by
  have sy := sub_self_eq .f64 b
  rw [hf] at sy
  have ny : (ford .f64 (fop .sub .f64 (cl .f64 b) (cl .f64 b)) (cl .f64 0) != some .eq) = true := by rw [bne, sy]; rfl
  clear sy hf
  go_enter Try.func61, Try.ntmps61
  go_wp2_with (first | (refine wpList_farith _ _ _ _ _ _ rfl rfl _ _ _ rfl rfl rfl ?_; intro b1 n1 h1) | (go_at_call 34; refine (nan_c _).mono ?_; rintro e w1 ⟨n, rfl, rfl⟩))
  all_goals
    go_ret
    exact ⟨_, _, rfl, by decide +kernel, rfl⟩
set_option maxHeartbeats 4000000 in
theorem sineWide_c (b : Nat) (h : Tur b) (w : World) : Calls Try.prog 61 #[.float .f64 b] w (RetF .f64 (sinC b) w) := by
  have tg := tst_gt .f64
  have tl := tst_lt .f64
  have te := tst_eq .f64
  have sy := sub_self_eq .f64 b
  have hf : isFin .f64 (cl .f64 b) = true := tur_fin h
  rw [hf] at sy
  have ny : (ford .f64 (fop .sub .f64 (cl .f64 b) (cl .f64 b)) (cl .f64 0) != some .eq) = false := by rw [bne, sy]; rfl
  have hb := Lib.hid h.1
  have a1 := far_hi h.1
  have a2 := far_lo h.1
  rw [decide_eq_false (near_split h.2).1] at a1
  rw [decide_eq_false (near_split h.2).2] at a2
  rw [← h.1] at a1 a2
  clear sy hf
  have ti := Lib.hid (tur_int h)
  have tq : ∀ f, fgt .f64 f (cl .f64 4598175219545276416) = sinQ f := fun _ => rfl
  have tt : ∀ f, (fgt .f64 f (cl .f64 4602678819172646912) || feq .f64 f (cl .f64 4602678819172646912)) = sinT f := fun _ => rfl
  obtain ⟨F, hF⟩ : ∃ F, F = behC b := ⟨_, rfl⟩
  obtain ⟨Z, hZ⟩ : ∃ Z, Z = sinZ F := ⟨_, rfl⟩
  have ZZ := Lib.hid hZ
  have e : sinC b = if sinT F then negC (sinO Z) else sinO Z := by rw [hZ, hF]; rfl
  rw [e]
  unfold behC at hF
  have FF := Lib.hid hF
  have FR := Lib.hid (rfl : fop .sub .f64 (some b) (i2f (toI b)) = fracC b)
  clear hF hZ e
  cases t0 : flt .f64 (fracC b) (cl .f64 0)
  · obtain rfl : F = fracC b := by (rw [FF.out, t0]; rfl)
    have E0 := Lib.hid t0
    cases t1 : sinT (fracC b)
    all_goals cases t2 : sinQ (sinA (sinT (fracC b)) (fracC b))
    all_goals
      rw [t1] at t2
      have E1 := Lib.hid t1
      have E2 := Lib.hid t2
      unfold sinA at t2
      (try simp only [if_true, Bool.false_eq_true, if_false] at t2)
      go_enter Try.func61, Try.ntmps61
      go_wp2_with (first | (refine wpList_f2i _ _ _ _ rfl _ rfl Try.underlying2 (by rw [Try.underlying25]; rfl) rfl _ ti.out.1 ti.out.2 ?_) | (refine wpList_farith _ .sub _ _ _ _ rfl rfl _ _ _ rfl rfl rfl ?_; intro s ns gs; have same : cl .f64 s = fop .sub .f64 (cl .f64 b) (cl .f64 b) := gs; clear same) | (refine wpList_farith _ .sub _ _ _ _ rfl rfl _ _ _ rfl rfl rfl ?_; intro y ny2 gy; rw [hb.out] at gy; have hy : cl .f64 y = fracC b := gy.trans FR.out; clear gy) | (refine wpList_farith _ .add _ _ _ _ rfl rfl _ _ _ rfl rfl rfl ?_; intro a na ga; (have hr : cl .f64 a = F := by (rw [ga, hy, FF.out, E0.out]; rfl)); clear ga) | (refine wpList_farith _ .sub _ _ _ _ rfl rfl _ _ _ rfl rfl rfl ?_; intro m1 n1 g1) | (refine wpList_farith _ .mul _ _ _ _ rfl rfl _ _ _ rfl rfl rfl ?_; intro z nz gz; have hz : cl .f64 z = Z := by rw [ZZ.out]; unfold sinZ; rw [E1.out, E2.out]; simp only [sinA, sinB, if_true, if_false, Bool.false_eq_true]; simp only [*]; done) | (refine wpList_farith _ .mul _ _ _ _ rfl rfl _ _ _ rfl rfl rfl ?_; intro u nu gu; have hu : cl .f64 u = sinU Z := by rw [gu, hz]; rfl))
      clear gz gu
      have hu' := Lib.hid hu
      clear hu
      go_loopw [7, 8] (fun p i wr => ∃ j n q : Nat, j ≤ 8 ∧ i = .int .i64 (8 - (j : Int)) ∧ p = .float .f64 q ∧ cl .f64 q = sinP (sinU Z) j ∧ wr = w.drewN n) (fun _ i _ => (intOf i + 2).toNat)
      case atStart => exact ⟨0, _, _, Nat.zero_le _, rfl, rfl, rfl, rfl⟩
      case round =>
        obtain ⟨j, n, q, hj, rfl, rfl, hq, rfl⟩ := hrel
        have hp' := Lib.hid hq
        clear hq
        by_cases hlt : j < 8
        · go_wp2_with (first | (refine wpList_farith _ .mul _ _ _ _ rfl rfl _ _ _ rfl rfl rfl ?_; intro m1 n1 g1) | (refine wpList_farith _ .quo _ _ _ _ rfl rfl _ _ _ rfl rfl rfl ?_; intro m2 n2 g2) | (refine wpList_farith _ .sub _ _ _ _ rfl rfl _ _ _ rfl rfl rfl ?_; intro m3 n3 g3))
          go_roundw
          case rel => exact ⟨j + 1, _, _, by omega, by go_num, rfl, by rw [sin_wrap j hlt] at g2; rw [sinP, ← hp'.out, ← hu'.out]; unfold i2f; simp only [*], rfl⟩
          case measure => simp [intOf]; omega
        · obtain rfl : j = 8 := by omega
          go_wp2_with (refine wpList_farith _ .mul _ _ _ _ rfl rfl _ _ _ rfl rfl rfl ?_; intro o no go; have ho : cl .f64 o = sinO Z := by (rw [go, hz, hp'.out]; rfl))
          all_goals
            go_ret
            exact ⟨_, _, rfl, by simp [cl_neg, ho], rfl⟩
  · have E0 := Lib.hid t0
    cases t1 : sinT F
    all_goals cases t2 : sinQ (sinA (sinT F) F)
    all_goals
      rw [t1] at t2
      have E1 := Lib.hid t1
      have E2 := Lib.hid t2
      unfold sinA at t2
      (try simp only [if_true, Bool.false_eq_true, if_false] at t2)
      go_enter Try.func61, Try.ntmps61
      go_wp2_with (first | (refine wpList_f2i _ _ _ _ rfl _ rfl Try.underlying2 (by rw [Try.underlying25]; rfl) rfl _ ti.out.1 ti.out.2 ?_) | (refine wpList_farith _ .sub _ _ _ _ rfl rfl _ _ _ rfl rfl rfl ?_; intro s ns gs; have same : cl .f64 s = fop .sub .f64 (cl .f64 b) (cl .f64 b) := gs; clear same) | (refine wpList_farith _ .sub _ _ _ _ rfl rfl _ _ _ rfl rfl rfl ?_; intro y ny2 gy; rw [hb.out] at gy; have hy : cl .f64 y = fracC b := gy.trans FR.out; clear gy) | (refine wpList_farith _ .add _ _ _ _ rfl rfl _ _ _ rfl rfl rfl ?_; intro a na ga; (have hr : cl .f64 a = F := by (rw [ga, hy, FF.out, E0.out]; rfl)); clear ga) | (refine wpList_farith _ .sub _ _ _ _ rfl rfl _ _ _ rfl rfl rfl ?_; intro m1 n1 g1) | (refine wpList_farith _ .mul _ _ _ _ rfl rfl _ _ _ rfl rfl rfl ?_; intro z nz gz; have hz : cl .f64 z = Z := by rw [ZZ.out]; unfold sinZ; rw [E1.out, E2.out]; simp only [sinA, sinB, if_true, if_false, Bool.false_eq_true]; simp only [*]; done) | (refine wpList_farith _ .mul _ _ _ _ rfl rfl _ _ _ rfl rfl rfl ?_; intro u nu gu; have hu : cl .f64 u = sinU Z := by rw [gu, hz]; rfl))
      clear gz gu
      have hu' := Lib.hid hu
      clear hu
      go_loopw [7, 8] (fun p i wr => ∃ j n q : Nat, j ≤ 8 ∧ i = .int .i64 (8 - (j : Int)) ∧ p = .float .f64 q ∧ cl .f64 q = sinP (sinU Z) j ∧ wr = w.drewN n) (fun _ i _ => (intOf i + 2).toNat)
      case atStart => exact ⟨0, _, _, Nat.zero_le _, rfl, rfl, rfl, rfl⟩
      case round =>
        obtain ⟨j, n, q, hj, rfl, rfl, hq, rfl⟩ := hrel
        have hp' := Lib.hid hq
        clear hq
        by_cases hlt : j < 8
        · go_wp2_with (first | (refine wpList_farith _ .mul _ _ _ _ rfl rfl _ _ _ rfl rfl rfl ?_; intro m1 n1 g1) | (refine wpList_farith _ .quo _ _ _ _ rfl rfl _ _ _ rfl rfl rfl ?_; intro m2 n2 g2) | (refine wpList_farith _ .sub _ _ _ _ rfl rfl _ _ _ rfl rfl rfl ?_; intro m3 n3 g3))
          go_roundw
          case rel => exact ⟨j + 1, _, _, by omega, by go_num, rfl, by rw [sin_wrap j hlt] at g2; rw [sinP, ← hp'.out, ← hu'.out]; unfold i2f; simp only [*], rfl⟩
          case measure => simp [intOf]; omega
        · obtain rfl : j = 8 := by omega
          go_wp2_with (refine wpList_farith _ .mul _ _ _ _ rfl rfl _ _ _ rfl rfl rfl ?_; intro o no go; have ho : cl .f64 o = sinO Z := by (rw [go, hz, hp'.out]; rfl))
          all_goals
            go_ret
            exact ⟨_, _, rfl, by simp [cl_neg, ho], rfl⟩

-- @has l01NarrowRoot
theorem l01Narrow_c (b : Nat) (hf : fits (cl .f64 b) = true) (w : World) : Calls Try.prog 54 #[.float .f64 b] w (RetF .f32 (narrow (cl .f64 b)) w) := by
  have H := Lib.hid hf
  clear hf
  go_enter Try.func54, Try.ntmps54
  go_wp2_with (refine wpList_narrow _ _ _ _ rfl _ rfl Try.underlying22 (by rw [Try.underlying25]; rfl) rfl (H.out) ?_; intro b1 n1 h1)
  go_ret
  exact ⟨_, _, rfl, by assumption, rfl⟩

-- @has Float32frombits
theorem f32from_run (n : Int) (w : World) : (callFunc 72 #[.int .u32 n]).run Try.prog w = .ok (.value (.float .f32 n.toNat)) w := by
  rw [run_callFunc_extern Try.func72 (e := Extern.MathFloatBits.float32frombits) (by kernel_rfl) (by kernel_rfl) (by kernel_rfl) (by kernel_rfl)]; rfl

-- @has l01From
theorem l01From_c (n : Int) (h1 : 0 ≤ n) (h2 : n ≤ 4294967295) (w : World) : Calls Try.prog 65 #[.int .i64 n] w (RetV (.float .f32 n.toNat) w) := by
  have hx := f32from_run
  go_enter Try.func65, Try.ntmps65
  go_wp2
  go_ret
  exact ⟨0, rfl, rfl⟩

-- @has specPhasorOf
theorem l01Narrow_k {c : Option Nat} (m : Nat) (h : cl .f64 m = c) (hf : fits c = true) (w : World) : Calls Try.prog 54 #[.float .f64 m] w (RetF .f32 (narrow c) w) := by
  rw [← h] at hf ⊢
  exact l01Narrow_c _ hf _
theorem sineWide_k {c : Option Nat} {E : Nat} (m : Nat) (h : cl .f64 m = c) (hl : LeE c E) (hE : E < 1075) (w : World) : Calls Try.prog 61 #[.float .f64 m] w (RetF .f64 (sinK c) w) := by
  rw [sinK_of h (tur_of_le hl hE h)]
  exact sineWide_c _ (tur_of_le hl hE h) _
theorem l01Phasor_nan (b : Nat) (hf : isFin .f64 (cl .f64 b) = false) (w : World) : Calls Try.prog 47 #[.float .f64 b] w (RetC .f32 none none w) := by
  have sy := sub_self_eq .f64 b
  rw [hf] at sy
  have ny : (ford .f64 (fop .sub .f64 (cl .f64 b) (cl .f64 b)) (cl .f64 0) != some .eq) = true := by rw [bne, sy]; rfl
  clear sy hf
  go_enter Try.func47, Try.ntmps47
  go_wp2_with (first | (refine wpList_farith _ _ _ _ _ _ rfl rfl _ _ _ rfl rfl rfl ?_; intro b1 n1 h1) | (go_at_call 65; refine (l01From_c _ (by decide) (by decide) _).mono ?_; rintro e w1 ⟨m, rfl, rfl⟩))
  all_goals
    go_ret
    exact ⟨_, _, _, rfl, by decide +kernel, by decide +kernel, rfl⟩
theorem l01Phasor_far (b : Nat) (hb : cl .f64 b = some b) (hf : isFin .f64 (cl .f64 b) = true) (h : 1075 * 2 ^ 52 ≤ rung FloatKind.f64.format b) (w : World) : Calls Try.prog 47 #[.float .f64 b] w (RetC .f32 (cl .f32 1065353216) (cl .f32 0) w) := by
  have tg := tst_gt .f64
  have tl := tst_lt .f64
  have te := tst_eq .f64
  have sy := sub_self_eq .f64 b
  rw [hf] at sy
  have ny : (ford .f64 (fop .sub .f64 (cl .f64 b) (cl .f64 b)) (cl .f64 0) != some .eq) = false := by rw [bne, sy]; rfl
  have a1 := far_hi hb
  have a2 := far_lo hb
  rw [hb] at ny
  clear sy hf
  rcases far_split h with h1 | ⟨h1, h2⟩
  · rw [decide_eq_true h1] at a1
    clear h h1 a2
    go_enter Try.func47, Try.ntmps47
    go_wp2_with (refine wpList_farith _ _ _ _ _ _ rfl rfl _ _ _ rfl rfl rfl ?_; intro b1 n1 h1)
    all_goals
      go_ret
      exact ⟨_, _, _, rfl, rfl, rfl, rfl⟩
  · rw [decide_eq_false h1] at a1
    rw [decide_eq_true h2] at a2
    clear h h1 h2
    go_enter Try.func47, Try.ntmps47
    go_wp2_with (refine wpList_farith _ _ _ _ _ _ rfl rfl _ _ _ rfl rfl rfl ?_; intro b1 n1 h1)
    all_goals
      go_ret
      exact ⟨_, _, _, rfl, rfl, rfl, rfl⟩
set_option maxHeartbeats 4000000 in
theorem l01Phasor_c (b j : Nat) (h : Tur b) (hj : First b j) (w : World) : Calls Try.prog 47 #[.float .f64 b] w (RetC .f32 (narrow (phRe b j)) (narrow (phIm b j)) w) := by
  have tg := tst_gt .f64
  have tl := tst_lt .f64
  have te := tst_eq .f64
  have sy := sub_self_eq .f64 b
  have hf : isFin .f64 (cl .f64 b) = true := tur_fin h
  rw [hf] at sy
  have ny : (ford .f64 (fop .sub .f64 (cl .f64 b) (cl .f64 b)) (cl .f64 0) != some .eq) = false := by rw [bne, sy]; rfl
  have hb := Lib.hid h.1
  have a1 := far_hi h.1
  have a2 := far_lo h.1
  rw [decide_eq_false (near_split h.2).1] at a1
  rw [decide_eq_false (near_split h.2).2] at a2
  rw [← h.1] at a1 a2
  clear sy hf
  have ti := Lib.hid (tur_int h)
  have FR := Lib.hid (rfl : fop .sub .f64 (some b) (i2f (toI b)) = fracC b)
  have tp : ∀ f, (fgt .f64 f (cl .f64 4598175219545276416) || feq .f64 f (cl .f64 4598175219545276416)) = phG f := fun _ => rfl
  have J := Lib.hid hj
  have PL := Lib.hid (phF_le h hj j (Nat.le_refl _))
  have AL := Lib.hid (phA_le h hj)
  have FT := Lib.hid (ph_fits h hj)
  have hsm := ph_small h hj
  clear hj
  cases t0 : flt .f64 (fracC b) (cl .f64 0)
  · have E0 := Lib.hid t0
    by_cases j1 : (j : Int) = 1
    · rw [(phRe_1 j1).1, (phRe_1 j1).2]
      go_enter Try.func47, Try.ntmps47
      go_wp2_with (first | (refine wpList_f2i _ _ _ _ rfl _ rfl Try.underlying2 (by rw [Try.underlying25]; rfl) rfl _ ti.out.1 ti.out.2 ?_) | (refine wpList_farith _ .sub _ _ _ _ rfl rfl _ _ _ rfl rfl rfl ?_; intro s ns gs; have same : cl .f64 s = fop .sub .f64 (cl .f64 b) (cl .f64 b) := gs; clear same) | (refine wpList_farith _ .sub _ _ _ _ rfl rfl _ _ _ rfl rfl rfl ?_; intro y ny2 gy; rw [hb.out] at gy; have hy : cl .f64 y = fracC b := gy.trans FR.out; clear gy) | (refine wpList_farith _ .add _ _ _ _ rfl rfl _ _ _ rfl rfl rfl ?_; intro a na ga; (have hr : cl .f64 a = behC b := by (rw [ga, hy]; unfold behC; rw [E0.out]; rfl)); clear ga))
      go_loopw [3, 4] (fun f q wr => ∃ i n p : Nat, i ≤ j ∧ f = .float .f64 p ∧ cl .f64 p = phF b i ∧ q = .int .i64 (i : Int) ∧ wr = w.drewN n) (fun _ q _ => j - (intOf q).toNat)
      case atStart => exact ⟨0, _, _, Nat.zero_le _, rfl, (by rw [hy]; unfold phF behC; rw [E0.out]; rfl), rfl, rfl⟩
      case round =>
        obtain ⟨i, n, p, hi, rfl, hq, rfl, rfl⟩ := hrel
        by_cases hlt : i < j
        · have ht : phG (cl .f64 p) = true := by rw [hq]; exact J.out.2 i hlt
          have hq' := Lib.hid hq
          clear hq
          go_wp2_with (refine wpList_farith _ .sub _ _ _ _ rfl rfl _ _ _ rfl rfl rfl ?_; intro m1 n1 g1)
          go_roundw
          case rel => exact ⟨i + 1, _, _, hlt, rfl, by rw [g1, hq'.out]; rfl, by go_num, rfl⟩
          case measure => simp [intOf]; omega
        · obtain rfl : j = i := by omega
          have ht : phG (cl .f64 p) = false := by rw [hq]; exact J.out.1
          have hq' := Lib.hid hq
          clear hq
          go_wp2_with (first | (refine wpList_farith _ .sub _ _ _ _ rfl rfl _ _ _ rfl rfl rfl ?_; intro m nm gm; (have gA : cl .f64 m = phA b j := by (rw [gm, hq'.out]; rfl))) | (refine wpList_farith _ .sub _ _ _ _ rfl rfl _ _ _ rfl rfl rfl ?_; intro d nd gd; (have gs : cl .f64 d = fop .sub .f64 (cl .f64 0) (phSin b j) := by (rw [gd, hs]))) | (refine wpList_farith _ .sub _ _ _ _ rfl rfl _ _ _ rfl rfl rfl ?_; intro e ne ge; (have gc : cl .f64 e = fop .sub .f64 (cl .f64 0) (phCos b j) := by (rw [ge, hc]))) | (go_at_call 61; refine (sineWide_k (c := phA b j) (E := 1025) _ (by with_reducible exact gA) AL.out (by decide) _).mono ?_; rintro e w1 ⟨c, nc, rfl, hc, rfl⟩; change cl .f64 c = phCos b j at hc) | (go_at_call 61; refine (sineWide_k (c := phF b j) (E := 1024) _ (by with_reducible exact hq'.out) PL.out (by decide) _).mono ?_; rintro e w1 ⟨s, ns, rfl, hs, rfl⟩; change cl .f64 s = phSin b j at hs) | (go_at_call 54; refine (l01Narrow_k (c := phCos b j) _ (by with_reducible exact hc) FT.out.1 _).mono ?_; rintro e w1 ⟨xkc, nxkc, rfl, kc, rfl⟩) | (go_at_call 54; refine (l01Narrow_k (c := phSin b j) _ (by with_reducible exact hs) FT.out.2.1 _).mono ?_; rintro e w1 ⟨xks, nxks, rfl, ks, rfl⟩) | (go_at_call 54; refine (l01Narrow_k (c := fop .sub .f64 (cl .f64 0) (phCos b j)) _ (by with_reducible exact gc) FT.out.2.2.1 _).mono ?_; rintro e w1 ⟨xkgc, nxkgc, rfl, kgc, rfl⟩) | (go_at_call 54; refine (l01Narrow_k (c := fop .sub .f64 (cl .f64 0) (phSin b j)) _ (by with_reducible exact gs) FT.out.2.2.2 _).mono ?_; rintro e w1 ⟨xkgs, nxkgs, rfl, kgs, rfl⟩))
          all_goals
            go_ret
            exact ⟨_, _, _, rfl, by assumption, by assumption, rfl⟩
    by_cases j2 : (j : Int) = 2
    · rw [(phRe_2 j2).1, (phRe_2 j2).2]
      go_enter Try.func47, Try.ntmps47
      go_wp2_with (first | (refine wpList_f2i _ _ _ _ rfl _ rfl Try.underlying2 (by rw [Try.underlying25]; rfl) rfl _ ti.out.1 ti.out.2 ?_) | (refine wpList_farith _ .sub _ _ _ _ rfl rfl _ _ _ rfl rfl rfl ?_; intro s ns gs; have same : cl .f64 s = fop .sub .f64 (cl .f64 b) (cl .f64 b) := gs; clear same) | (refine wpList_farith _ .sub _ _ _ _ rfl rfl _ _ _ rfl rfl rfl ?_; intro y ny2 gy; rw [hb.out] at gy; have hy : cl .f64 y = fracC b := gy.trans FR.out; clear gy) | (refine wpList_farith _ .add _ _ _ _ rfl rfl _ _ _ rfl rfl rfl ?_; intro a na ga; (have hr : cl .f64 a = behC b := by (rw [ga, hy]; unfold behC; rw [E0.out]; rfl)); clear ga))
      go_loopw [3, 4] (fun f q wr => ∃ i n p : Nat, i ≤ j ∧ f = .float .f64 p ∧ cl .f64 p = phF b i ∧ q = .int .i64 (i : Int) ∧ wr = w.drewN n) (fun _ q _ => j - (intOf q).toNat)
      case atStart => exact ⟨0, _, _, Nat.zero_le _, rfl, (by rw [hy]; unfold phF behC; rw [E0.out]; rfl), rfl, rfl⟩
      case round =>
        obtain ⟨i, n, p, hi, rfl, hq, rfl, rfl⟩ := hrel
        by_cases hlt : i < j
        · have ht : phG (cl .f64 p) = true := by rw [hq]; exact J.out.2 i hlt
          have hq' := Lib.hid hq
          clear hq
          go_wp2_with (refine wpList_farith _ .sub _ _ _ _ rfl rfl _ _ _ rfl rfl rfl ?_; intro m1 n1 g1)
          go_roundw
          case rel => exact ⟨i + 1, _, _, hlt, rfl, by rw [g1, hq'.out]; rfl, by go_num, rfl⟩
          case measure => simp [intOf]; omega
        · obtain rfl : j = i := by omega
          have ht : phG (cl .f64 p) = false := by rw [hq]; exact J.out.1
          have hq' := Lib.hid hq
          clear hq
          go_wp2_with (first | (refine wpList_farith _ .sub _ _ _ _ rfl rfl _ _ _ rfl rfl rfl ?_; intro m nm gm; (have gA : cl .f64 m = phA b j := by (rw [gm, hq'.out]; rfl))) | (refine wpList_farith _ .sub _ _ _ _ rfl rfl _ _ _ rfl rfl rfl ?_; intro d nd gd; (have gs : cl .f64 d = fop .sub .f64 (cl .f64 0) (phSin b j) := by (rw [gd, hs]))) | (refine wpList_farith _ .sub _ _ _ _ rfl rfl _ _ _ rfl rfl rfl ?_; intro e ne ge; (have gc : cl .f64 e = fop .sub .f64 (cl .f64 0) (phCos b j) := by (rw [ge, hc]))) | (go_at_call 61; refine (sineWide_k (c := phA b j) (E := 1025) _ (by with_reducible exact gA) AL.out (by decide) _).mono ?_; rintro e w1 ⟨c, nc, rfl, hc, rfl⟩; change cl .f64 c = phCos b j at hc) | (go_at_call 61; refine (sineWide_k (c := phF b j) (E := 1024) _ (by with_reducible exact hq'.out) PL.out (by decide) _).mono ?_; rintro e w1 ⟨s, ns, rfl, hs, rfl⟩; change cl .f64 s = phSin b j at hs) | (go_at_call 54; refine (l01Narrow_k (c := phCos b j) _ (by with_reducible exact hc) FT.out.1 _).mono ?_; rintro e w1 ⟨xkc, nxkc, rfl, kc, rfl⟩) | (go_at_call 54; refine (l01Narrow_k (c := phSin b j) _ (by with_reducible exact hs) FT.out.2.1 _).mono ?_; rintro e w1 ⟨xks, nxks, rfl, ks, rfl⟩) | (go_at_call 54; refine (l01Narrow_k (c := fop .sub .f64 (cl .f64 0) (phCos b j)) _ (by with_reducible exact gc) FT.out.2.2.1 _).mono ?_; rintro e w1 ⟨xkgc, nxkgc, rfl, kgc, rfl⟩) | (go_at_call 54; refine (l01Narrow_k (c := fop .sub .f64 (cl .f64 0) (phSin b j)) _ (by with_reducible exact gs) FT.out.2.2.2 _).mono ?_; rintro e w1 ⟨xkgs, nxkgs, rfl, kgs, rfl⟩))
          all_goals
            go_ret
            exact ⟨_, _, _, rfl, by assumption, by assumption, rfl⟩
    by_cases j3 : (j : Int) = 3
    · rw [(phRe_3 j3).1, (phRe_3 j3).2]
      go_enter Try.func47, Try.ntmps47
      go_wp2_with (first | (refine wpList_f2i _ _ _ _ rfl _ rfl Try.underlying2 (by rw [Try.underlying25]; rfl) rfl _ ti.out.1 ti.out.2 ?_) | (refine wpList_farith _ .sub _ _ _ _ rfl rfl _ _ _ rfl rfl rfl ?_; intro s ns gs; have same : cl .f64 s = fop .sub .f64 (cl .f64 b) (cl .f64 b) := gs; clear same) | (refine wpList_farith _ .sub _ _ _ _ rfl rfl _ _ _ rfl rfl rfl ?_; intro y ny2 gy; rw [hb.out] at gy; have hy : cl .f64 y = fracC b := gy.trans FR.out; clear gy) | (refine wpList_farith _ .add _ _ _ _ rfl rfl _ _ _ rfl rfl rfl ?_; intro a na ga; (have hr : cl .f64 a = behC b := by (rw [ga, hy]; unfold behC; rw [E0.out]; rfl)); clear ga))
      go_loopw [3, 4] (fun f q wr => ∃ i n p : Nat, i ≤ j ∧ f = .float .f64 p ∧ cl .f64 p = phF b i ∧ q = .int .i64 (i : Int) ∧ wr = w.drewN n) (fun _ q _ => j - (intOf q).toNat)
      case atStart => exact ⟨0, _, _, Nat.zero_le _, rfl, (by rw [hy]; unfold phF behC; rw [E0.out]; rfl), rfl, rfl⟩
      case round =>
        obtain ⟨i, n, p, hi, rfl, hq, rfl, rfl⟩ := hrel
        by_cases hlt : i < j
        · have ht : phG (cl .f64 p) = true := by rw [hq]; exact J.out.2 i hlt
          have hq' := Lib.hid hq
          clear hq
          go_wp2_with (refine wpList_farith _ .sub _ _ _ _ rfl rfl _ _ _ rfl rfl rfl ?_; intro m1 n1 g1)
          go_roundw
          case rel => exact ⟨i + 1, _, _, hlt, rfl, by rw [g1, hq'.out]; rfl, by go_num, rfl⟩
          case measure => simp [intOf]; omega
        · obtain rfl : j = i := by omega
          have ht : phG (cl .f64 p) = false := by rw [hq]; exact J.out.1
          have hq' := Lib.hid hq
          clear hq
          go_wp2_with (first | (refine wpList_farith _ .sub _ _ _ _ rfl rfl _ _ _ rfl rfl rfl ?_; intro m nm gm; (have gA : cl .f64 m = phA b j := by (rw [gm, hq'.out]; rfl))) | (refine wpList_farith _ .sub _ _ _ _ rfl rfl _ _ _ rfl rfl rfl ?_; intro d nd gd; (have gs : cl .f64 d = fop .sub .f64 (cl .f64 0) (phSin b j) := by (rw [gd, hs]))) | (refine wpList_farith _ .sub _ _ _ _ rfl rfl _ _ _ rfl rfl rfl ?_; intro e ne ge; (have gc : cl .f64 e = fop .sub .f64 (cl .f64 0) (phCos b j) := by (rw [ge, hc]))) | (go_at_call 61; refine (sineWide_k (c := phA b j) (E := 1025) _ (by with_reducible exact gA) AL.out (by decide) _).mono ?_; rintro e w1 ⟨c, nc, rfl, hc, rfl⟩; change cl .f64 c = phCos b j at hc) | (go_at_call 61; refine (sineWide_k (c := phF b j) (E := 1024) _ (by with_reducible exact hq'.out) PL.out (by decide) _).mono ?_; rintro e w1 ⟨s, ns, rfl, hs, rfl⟩; change cl .f64 s = phSin b j at hs) | (go_at_call 54; refine (l01Narrow_k (c := phCos b j) _ (by with_reducible exact hc) FT.out.1 _).mono ?_; rintro e w1 ⟨xkc, nxkc, rfl, kc, rfl⟩) | (go_at_call 54; refine (l01Narrow_k (c := phSin b j) _ (by with_reducible exact hs) FT.out.2.1 _).mono ?_; rintro e w1 ⟨xks, nxks, rfl, ks, rfl⟩) | (go_at_call 54; refine (l01Narrow_k (c := fop .sub .f64 (cl .f64 0) (phCos b j)) _ (by with_reducible exact gc) FT.out.2.2.1 _).mono ?_; rintro e w1 ⟨xkgc, nxkgc, rfl, kgc, rfl⟩) | (go_at_call 54; refine (l01Narrow_k (c := fop .sub .f64 (cl .f64 0) (phSin b j)) _ (by with_reducible exact gs) FT.out.2.2.2 _).mono ?_; rintro e w1 ⟨xkgs, nxkgs, rfl, kgs, rfl⟩))
          all_goals
            go_ret
            exact ⟨_, _, _, rfl, by assumption, by assumption, rfl⟩
    rw [(phRe_0 j1 j2 j3).1, (phRe_0 j1 j2 j3).2]
    go_enter Try.func47, Try.ntmps47
    go_wp2_with (first | (refine wpList_f2i _ _ _ _ rfl _ rfl Try.underlying2 (by rw [Try.underlying25]; rfl) rfl _ ti.out.1 ti.out.2 ?_) | (refine wpList_farith _ .sub _ _ _ _ rfl rfl _ _ _ rfl rfl rfl ?_; intro s ns gs; have same : cl .f64 s = fop .sub .f64 (cl .f64 b) (cl .f64 b) := gs; clear same) | (refine wpList_farith _ .sub _ _ _ _ rfl rfl _ _ _ rfl rfl rfl ?_; intro y ny2 gy; rw [hb.out] at gy; have hy : cl .f64 y = fracC b := gy.trans FR.out; clear gy) | (refine wpList_farith _ .add _ _ _ _ rfl rfl _ _ _ rfl rfl rfl ?_; intro a na ga; (have hr : cl .f64 a = behC b := by (rw [ga, hy]; unfold behC; rw [E0.out]; rfl)); clear ga))
    go_loopw [3, 4] (fun f q wr => ∃ i n p : Nat, i ≤ j ∧ f = .float .f64 p ∧ cl .f64 p = phF b i ∧ q = .int .i64 (i : Int) ∧ wr = w.drewN n) (fun _ q _ => j - (intOf q).toNat)
    case atStart => exact ⟨0, _, _, Nat.zero_le _, rfl, (by rw [hy]; unfold phF behC; rw [E0.out]; rfl), rfl, rfl⟩
    case round =>
      obtain ⟨i, n, p, hi, rfl, hq, rfl, rfl⟩ := hrel
      by_cases hlt : i < j
      · have ht : phG (cl .f64 p) = true := by rw [hq]; exact J.out.2 i hlt
        have hq' := Lib.hid hq
        clear hq
        go_wp2_with (refine wpList_farith _ .sub _ _ _ _ rfl rfl _ _ _ rfl rfl rfl ?_; intro m1 n1 g1)
        go_roundw
        case rel => exact ⟨i + 1, _, _, hlt, rfl, by rw [g1, hq'.out]; rfl, by go_num, rfl⟩
        case measure => simp [intOf]; omega
      · obtain rfl : j = i := by omega
        have ht : phG (cl .f64 p) = false := by rw [hq]; exact J.out.1
        have hq' := Lib.hid hq
        clear hq
        go_wp2_with (first | (refine wpList_farith _ .sub _ _ _ _ rfl rfl _ _ _ rfl rfl rfl ?_; intro m nm gm; (have gA : cl .f64 m = phA b j := by (rw [gm, hq'.out]; rfl))) | (refine wpList_farith _ .sub _ _ _ _ rfl rfl _ _ _ rfl rfl rfl ?_; intro d nd gd; (have gs : cl .f64 d = fop .sub .f64 (cl .f64 0) (phSin b j) := by (rw [gd, hs]))) | (refine wpList_farith _ .sub _ _ _ _ rfl rfl _ _ _ rfl rfl rfl ?_; intro e ne ge; (have gc : cl .f64 e = fop .sub .f64 (cl .f64 0) (phCos b j) := by (rw [ge, hc]))) | (go_at_call 61; refine (sineWide_k (c := phA b j) (E := 1025) _ (by with_reducible exact gA) AL.out (by decide) _).mono ?_; rintro e w1 ⟨c, nc, rfl, hc, rfl⟩; change cl .f64 c = phCos b j at hc) | (go_at_call 61; refine (sineWide_k (c := phF b j) (E := 1024) _ (by with_reducible exact hq'.out) PL.out (by decide) _).mono ?_; rintro e w1 ⟨s, ns, rfl, hs, rfl⟩; change cl .f64 s = phSin b j at hs) | (go_at_call 54; refine (l01Narrow_k (c := phCos b j) _ (by with_reducible exact hc) FT.out.1 _).mono ?_; rintro e w1 ⟨xkc, nxkc, rfl, kc, rfl⟩) | (go_at_call 54; refine (l01Narrow_k (c := phSin b j) _ (by with_reducible exact hs) FT.out.2.1 _).mono ?_; rintro e w1 ⟨xks, nxks, rfl, ks, rfl⟩) | (go_at_call 54; refine (l01Narrow_k (c := fop .sub .f64 (cl .f64 0) (phCos b j)) _ (by with_reducible exact gc) FT.out.2.2.1 _).mono ?_; rintro e w1 ⟨xkgc, nxkgc, rfl, kgc, rfl⟩) | (go_at_call 54; refine (l01Narrow_k (c := fop .sub .f64 (cl .f64 0) (phSin b j)) _ (by with_reducible exact gs) FT.out.2.2.2 _).mono ?_; rintro e w1 ⟨xkgs, nxkgs, rfl, kgs, rfl⟩))
        all_goals
          go_ret
          exact ⟨_, _, _, rfl, by assumption, by assumption, rfl⟩
  · have E0 := Lib.hid t0
    by_cases j1 : (j : Int) = 1
    · rw [(phRe_1 j1).1, (phRe_1 j1).2]
      go_enter Try.func47, Try.ntmps47
      go_wp2_with (first | (refine wpList_f2i _ _ _ _ rfl _ rfl Try.underlying2 (by rw [Try.underlying25]; rfl) rfl _ ti.out.1 ti.out.2 ?_) | (refine wpList_farith _ .sub _ _ _ _ rfl rfl _ _ _ rfl rfl rfl ?_; intro s ns gs; have same : cl .f64 s = fop .sub .f64 (cl .f64 b) (cl .f64 b) := gs; clear same) | (refine wpList_farith _ .sub _ _ _ _ rfl rfl _ _ _ rfl rfl rfl ?_; intro y ny2 gy; rw [hb.out] at gy; have hy : cl .f64 y = fracC b := gy.trans FR.out; clear gy) | (refine wpList_farith _ .add _ _ _ _ rfl rfl _ _ _ rfl rfl rfl ?_; intro a na ga; (have hr : cl .f64 a = behC b := by (rw [ga, hy]; unfold behC; rw [E0.out]; rfl)); clear ga))
      go_loopw [3, 4] (fun f q wr => ∃ i n p : Nat, i ≤ j ∧ f = .float .f64 p ∧ cl .f64 p = phF b i ∧ q = .int .i64 (i : Int) ∧ wr = w.drewN n) (fun _ q _ => j - (intOf q).toNat)
      case atStart => exact ⟨0, _, _, Nat.zero_le _, rfl, hr, rfl, rfl⟩
      case round =>
        obtain ⟨i, n, p, hi, rfl, hq, rfl, rfl⟩ := hrel
        by_cases hlt : i < j
        · have ht : phG (cl .f64 p) = true := by rw [hq]; exact J.out.2 i hlt
          have hq' := Lib.hid hq
          clear hq
          go_wp2_with (refine wpList_farith _ .sub _ _ _ _ rfl rfl _ _ _ rfl rfl rfl ?_; intro m1 n1 g1)
          go_roundw
          case rel => exact ⟨i + 1, _, _, hlt, rfl, by rw [g1, hq'.out]; rfl, by go_num, rfl⟩
          case measure => simp [intOf]; omega
        · obtain rfl : j = i := by omega
          have ht : phG (cl .f64 p) = false := by rw [hq]; exact J.out.1
          have hq' := Lib.hid hq
          clear hq
          go_wp2_with (first | (refine wpList_farith _ .sub _ _ _ _ rfl rfl _ _ _ rfl rfl rfl ?_; intro m nm gm; (have gA : cl .f64 m = phA b j := by (rw [gm, hq'.out]; rfl))) | (refine wpList_farith _ .sub _ _ _ _ rfl rfl _ _ _ rfl rfl rfl ?_; intro d nd gd; (have gs : cl .f64 d = fop .sub .f64 (cl .f64 0) (phSin b j) := by (rw [gd, hs]))) | (refine wpList_farith _ .sub _ _ _ _ rfl rfl _ _ _ rfl rfl rfl ?_; intro e ne ge; (have gc : cl .f64 e = fop .sub .f64 (cl .f64 0) (phCos b j) := by (rw [ge, hc]))) | (go_at_call 61; refine (sineWide_k (c := phA b j) (E := 1025) _ (by with_reducible exact gA) AL.out (by decide) _).mono ?_; rintro e w1 ⟨c, nc, rfl, hc, rfl⟩; change cl .f64 c = phCos b j at hc) | (go_at_call 61; refine (sineWide_k (c := phF b j) (E := 1024) _ (by with_reducible exact hq'.out) PL.out (by decide) _).mono ?_; rintro e w1 ⟨s, ns, rfl, hs, rfl⟩; change cl .f64 s = phSin b j at hs) | (go_at_call 54; refine (l01Narrow_k (c := phCos b j) _ (by with_reducible exact hc) FT.out.1 _).mono ?_; rintro e w1 ⟨xkc, nxkc, rfl, kc, rfl⟩) | (go_at_call 54; refine (l01Narrow_k (c := phSin b j) _ (by with_reducible exact hs) FT.out.2.1 _).mono ?_; rintro e w1 ⟨xks, nxks, rfl, ks, rfl⟩) | (go_at_call 54; refine (l01Narrow_k (c := fop .sub .f64 (cl .f64 0) (phCos b j)) _ (by with_reducible exact gc) FT.out.2.2.1 _).mono ?_; rintro e w1 ⟨xkgc, nxkgc, rfl, kgc, rfl⟩) | (go_at_call 54; refine (l01Narrow_k (c := fop .sub .f64 (cl .f64 0) (phSin b j)) _ (by with_reducible exact gs) FT.out.2.2.2 _).mono ?_; rintro e w1 ⟨xkgs, nxkgs, rfl, kgs, rfl⟩))
          all_goals
            go_ret
            exact ⟨_, _, _, rfl, by assumption, by assumption, rfl⟩
    by_cases j2 : (j : Int) = 2
    · rw [(phRe_2 j2).1, (phRe_2 j2).2]
      go_enter Try.func47, Try.ntmps47
      go_wp2_with (first | (refine wpList_f2i _ _ _ _ rfl _ rfl Try.underlying2 (by rw [Try.underlying25]; rfl) rfl _ ti.out.1 ti.out.2 ?_) | (refine wpList_farith _ .sub _ _ _ _ rfl rfl _ _ _ rfl rfl rfl ?_; intro s ns gs; have same : cl .f64 s = fop .sub .f64 (cl .f64 b) (cl .f64 b) := gs; clear same) | (refine wpList_farith _ .sub _ _ _ _ rfl rfl _ _ _ rfl rfl rfl ?_; intro y ny2 gy; rw [hb.out] at gy; have hy : cl .f64 y = fracC b := gy.trans FR.out; clear gy) | (refine wpList_farith _ .add _ _ _ _ rfl rfl _ _ _ rfl rfl rfl ?_; intro a na ga; (have hr : cl .f64 a = behC b := by (rw [ga, hy]; unfold behC; rw [E0.out]; rfl)); clear ga))
      go_loopw [3, 4] (fun f q wr => ∃ i n p : Nat, i ≤ j ∧ f = .float .f64 p ∧ cl .f64 p = phF b i ∧ q = .int .i64 (i : Int) ∧ wr = w.drewN n) (fun _ q _ => j - (intOf q).toNat)
      case atStart => exact ⟨0, _, _, Nat.zero_le _, rfl, hr, rfl, rfl⟩
      case round =>
        obtain ⟨i, n, p, hi, rfl, hq, rfl, rfl⟩ := hrel
        by_cases hlt : i < j
        · have ht : phG (cl .f64 p) = true := by rw [hq]; exact J.out.2 i hlt
          have hq' := Lib.hid hq
          clear hq
          go_wp2_with (refine wpList_farith _ .sub _ _ _ _ rfl rfl _ _ _ rfl rfl rfl ?_; intro m1 n1 g1)
          go_roundw
          case rel => exact ⟨i + 1, _, _, hlt, rfl, by rw [g1, hq'.out]; rfl, by go_num, rfl⟩
          case measure => simp [intOf]; omega
        · obtain rfl : j = i := by omega
          have ht : phG (cl .f64 p) = false := by rw [hq]; exact J.out.1
          have hq' := Lib.hid hq
          clear hq
          go_wp2_with (first | (refine wpList_farith _ .sub _ _ _ _ rfl rfl _ _ _ rfl rfl rfl ?_; intro m nm gm; (have gA : cl .f64 m = phA b j := by (rw [gm, hq'.out]; rfl))) | (refine wpList_farith _ .sub _ _ _ _ rfl rfl _ _ _ rfl rfl rfl ?_; intro d nd gd; (have gs : cl .f64 d = fop .sub .f64 (cl .f64 0) (phSin b j) := by (rw [gd, hs]))) | (refine wpList_farith _ .sub _ _ _ _ rfl rfl _ _ _ rfl rfl rfl ?_; intro e ne ge; (have gc : cl .f64 e = fop .sub .f64 (cl .f64 0) (phCos b j) := by (rw [ge, hc]))) | (go_at_call 61; refine (sineWide_k (c := phA b j) (E := 1025) _ (by with_reducible exact gA) AL.out (by decide) _).mono ?_; rintro e w1 ⟨c, nc, rfl, hc, rfl⟩; change cl .f64 c = phCos b j at hc) | (go_at_call 61; refine (sineWide_k (c := phF b j) (E := 1024) _ (by with_reducible exact hq'.out) PL.out (by decide) _).mono ?_; rintro e w1 ⟨s, ns, rfl, hs, rfl⟩; change cl .f64 s = phSin b j at hs) | (go_at_call 54; refine (l01Narrow_k (c := phCos b j) _ (by with_reducible exact hc) FT.out.1 _).mono ?_; rintro e w1 ⟨xkc, nxkc, rfl, kc, rfl⟩) | (go_at_call 54; refine (l01Narrow_k (c := phSin b j) _ (by with_reducible exact hs) FT.out.2.1 _).mono ?_; rintro e w1 ⟨xks, nxks, rfl, ks, rfl⟩) | (go_at_call 54; refine (l01Narrow_k (c := fop .sub .f64 (cl .f64 0) (phCos b j)) _ (by with_reducible exact gc) FT.out.2.2.1 _).mono ?_; rintro e w1 ⟨xkgc, nxkgc, rfl, kgc, rfl⟩) | (go_at_call 54; refine (l01Narrow_k (c := fop .sub .f64 (cl .f64 0) (phSin b j)) _ (by with_reducible exact gs) FT.out.2.2.2 _).mono ?_; rintro e w1 ⟨xkgs, nxkgs, rfl, kgs, rfl⟩))
          all_goals
            go_ret
            exact ⟨_, _, _, rfl, by assumption, by assumption, rfl⟩
    by_cases j3 : (j : Int) = 3
    · rw [(phRe_3 j3).1, (phRe_3 j3).2]
      go_enter Try.func47, Try.ntmps47
      go_wp2_with (first | (refine wpList_f2i _ _ _ _ rfl _ rfl Try.underlying2 (by rw [Try.underlying25]; rfl) rfl _ ti.out.1 ti.out.2 ?_) | (refine wpList_farith _ .sub _ _ _ _ rfl rfl _ _ _ rfl rfl rfl ?_; intro s ns gs; have same : cl .f64 s = fop .sub .f64 (cl .f64 b) (cl .f64 b) := gs; clear same) | (refine wpList_farith _ .sub _ _ _ _ rfl rfl _ _ _ rfl rfl rfl ?_; intro y ny2 gy; rw [hb.out] at gy; have hy : cl .f64 y = fracC b := gy.trans FR.out; clear gy) | (refine wpList_farith _ .add _ _ _ _ rfl rfl _ _ _ rfl rfl rfl ?_; intro a na ga; (have hr : cl .f64 a = behC b := by (rw [ga, hy]; unfold behC; rw [E0.out]; rfl)); clear ga))
      go_loopw [3, 4] (fun f q wr => ∃ i n p : Nat, i ≤ j ∧ f = .float .f64 p ∧ cl .f64 p = phF b i ∧ q = .int .i64 (i : Int) ∧ wr = w.drewN n) (fun _ q _ => j - (intOf q).toNat)
      case atStart => exact ⟨0, _, _, Nat.zero_le _, rfl, hr, rfl, rfl⟩
      case round =>
        obtain ⟨i, n, p, hi, rfl, hq, rfl, rfl⟩ := hrel
        by_cases hlt : i < j
        · have ht : phG (cl .f64 p) = true := by rw [hq]; exact J.out.2 i hlt
          have hq' := Lib.hid hq
          clear hq
          go_wp2_with (refine wpList_farith _ .sub _ _ _ _ rfl rfl _ _ _ rfl rfl rfl ?_; intro m1 n1 g1)
          go_roundw
          case rel => exact ⟨i + 1, _, _, hlt, rfl, by rw [g1, hq'.out]; rfl, by go_num, rfl⟩
          case measure => simp [intOf]; omega
        · obtain rfl : j = i := by omega
          have ht : phG (cl .f64 p) = false := by rw [hq]; exact J.out.1
          have hq' := Lib.hid hq
          clear hq
          go_wp2_with (first | (refine wpList_farith _ .sub _ _ _ _ rfl rfl _ _ _ rfl rfl rfl ?_; intro m nm gm; (have gA : cl .f64 m = phA b j := by (rw [gm, hq'.out]; rfl))) | (refine wpList_farith _ .sub _ _ _ _ rfl rfl _ _ _ rfl rfl rfl ?_; intro d nd gd; (have gs : cl .f64 d = fop .sub .f64 (cl .f64 0) (phSin b j) := by (rw [gd, hs]))) | (refine wpList_farith _ .sub _ _ _ _ rfl rfl _ _ _ rfl rfl rfl ?_; intro e ne ge; (have gc : cl .f64 e = fop .sub .f64 (cl .f64 0) (phCos b j) := by (rw [ge, hc]))) | (go_at_call 61; refine (sineWide_k (c := phA b j) (E := 1025) _ (by with_reducible exact gA) AL.out (by decide) _).mono ?_; rintro e w1 ⟨c, nc, rfl, hc, rfl⟩; change cl .f64 c = phCos b j at hc) | (go_at_call 61; refine (sineWide_k (c := phF b j) (E := 1024) _ (by with_reducible exact hq'.out) PL.out (by decide) _).mono ?_; rintro e w1 ⟨s, ns, rfl, hs, rfl⟩; change cl .f64 s = phSin b j at hs) | (go_at_call 54; refine (l01Narrow_k (c := phCos b j) _ (by with_reducible exact hc) FT.out.1 _).mono ?_; rintro e w1 ⟨xkc, nxkc, rfl, kc, rfl⟩) | (go_at_call 54; refine (l01Narrow_k (c := phSin b j) _ (by with_reducible exact hs) FT.out.2.1 _).mono ?_; rintro e w1 ⟨xks, nxks, rfl, ks, rfl⟩) | (go_at_call 54; refine (l01Narrow_k (c := fop .sub .f64 (cl .f64 0) (phCos b j)) _ (by with_reducible exact gc) FT.out.2.2.1 _).mono ?_; rintro e w1 ⟨xkgc, nxkgc, rfl, kgc, rfl⟩) | (go_at_call 54; refine (l01Narrow_k (c := fop .sub .f64 (cl .f64 0) (phSin b j)) _ (by with_reducible exact gs) FT.out.2.2.2 _).mono ?_; rintro e w1 ⟨xkgs, nxkgs, rfl, kgs, rfl⟩))
          all_goals
            go_ret
            exact ⟨_, _, _, rfl, by assumption, by assumption, rfl⟩
    rw [(phRe_0 j1 j2 j3).1, (phRe_0 j1 j2 j3).2]
    go_enter Try.func47, Try.ntmps47
    go_wp2_with (first | (refine wpList_f2i _ _ _ _ rfl _ rfl Try.underlying2 (by rw [Try.underlying25]; rfl) rfl _ ti.out.1 ti.out.2 ?_) | (refine wpList_farith _ .sub _ _ _ _ rfl rfl _ _ _ rfl rfl rfl ?_; intro s ns gs; have same : cl .f64 s = fop .sub .f64 (cl .f64 b) (cl .f64 b) := gs; clear same) | (refine wpList_farith _ .sub _ _ _ _ rfl rfl _ _ _ rfl rfl rfl ?_; intro y ny2 gy; rw [hb.out] at gy; have hy : cl .f64 y = fracC b := gy.trans FR.out; clear gy) | (refine wpList_farith _ .add _ _ _ _ rfl rfl _ _ _ rfl rfl rfl ?_; intro a na ga; (have hr : cl .f64 a = behC b := by (rw [ga, hy]; unfold behC; rw [E0.out]; rfl)); clear ga))
    go_loopw [3, 4] (fun f q wr => ∃ i n p : Nat, i ≤ j ∧ f = .float .f64 p ∧ cl .f64 p = phF b i ∧ q = .int .i64 (i : Int) ∧ wr = w.drewN n) (fun _ q _ => j - (intOf q).toNat)
    case atStart => exact ⟨0, _, _, Nat.zero_le _, rfl, hr, rfl, rfl⟩
    case round =>
      obtain ⟨i, n, p, hi, rfl, hq, rfl, rfl⟩ := hrel
      by_cases hlt : i < j
      · have ht : phG (cl .f64 p) = true := by rw [hq]; exact J.out.2 i hlt
        have hq' := Lib.hid hq
        clear hq
        go_wp2_with (refine wpList_farith _ .sub _ _ _ _ rfl rfl _ _ _ rfl rfl rfl ?_; intro m1 n1 g1)
        go_roundw
        case rel => exact ⟨i + 1, _, _, hlt, rfl, by rw [g1, hq'.out]; rfl, by go_num, rfl⟩
        case measure => simp [intOf]; omega
      · obtain rfl : j = i := by omega
        have ht : phG (cl .f64 p) = false := by rw [hq]; exact J.out.1
        have hq' := Lib.hid hq
        clear hq
        go_wp2_with (first | (refine wpList_farith _ .sub _ _ _ _ rfl rfl _ _ _ rfl rfl rfl ?_; intro m nm gm; (have gA : cl .f64 m = phA b j := by (rw [gm, hq'.out]; rfl))) | (refine wpList_farith _ .sub _ _ _ _ rfl rfl _ _ _ rfl rfl rfl ?_; intro d nd gd; (have gs : cl .f64 d = fop .sub .f64 (cl .f64 0) (phSin b j) := by (rw [gd, hs]))) | (refine wpList_farith _ .sub _ _ _ _ rfl rfl _ _ _ rfl rfl rfl ?_; intro e ne ge; (have gc : cl .f64 e = fop .sub .f64 (cl .f64 0) (phCos b j) := by (rw [ge, hc]))) | (go_at_call 61; refine (sineWide_k (c := phA b j) (E := 1025) _ (by with_reducible exact gA) AL.out (by decide) _).mono ?_; rintro e w1 ⟨c, nc, rfl, hc, rfl⟩; change cl .f64 c = phCos b j at hc) | (go_at_call 61; refine (sineWide_k (c := phF b j) (E := 1024) _ (by with_reducible exact hq'.out) PL.out (by decide) _).mono ?_; rintro e w1 ⟨s, ns, rfl, hs, rfl⟩; change cl .f64 s = phSin b j at hs) | (go_at_call 54; refine (l01Narrow_k (c := phCos b j) _ (by with_reducible exact hc) FT.out.1 _).mono ?_; rintro e w1 ⟨xkc, nxkc, rfl, kc, rfl⟩) | (go_at_call 54; refine (l01Narrow_k (c := phSin b j) _ (by with_reducible exact hs) FT.out.2.1 _).mono ?_; rintro e w1 ⟨xks, nxks, rfl, ks, rfl⟩) | (go_at_call 54; refine (l01Narrow_k (c := fop .sub .f64 (cl .f64 0) (phCos b j)) _ (by with_reducible exact gc) FT.out.2.2.1 _).mono ?_; rintro e w1 ⟨xkgc, nxkgc, rfl, kgc, rfl⟩) | (go_at_call 54; refine (l01Narrow_k (c := fop .sub .f64 (cl .f64 0) (phSin b j)) _ (by with_reducible exact gs) FT.out.2.2.2 _).mono ?_; rintro e w1 ⟨xkgs, nxkgs, rfl, kgs, rfl⟩))
        all_goals
          go_ret
          exact ⟨_, _, _, rfl, by assumption, by assumption, rfl⟩
theorem specPhasor_k {r0 r1 : Option Nat} (b : Nat) (w : World) (h : ∀ w, Calls Try.prog 47 #[.float .f64 b] w (RetC .f32 r0 r1 w)) : Calls Try.prog 22 #[.float .f64 b] w (RetC .f32 r0 r1 w) := by
  go_enter Try.func22, Try.ntmps22
  go_wp2_with (go_at_call 47; refine (h _).mono ?_; rintro e w1 ⟨p, q, n, rfl, h0, h1, rfl⟩)
  go_ret
  exact ⟨_, _, _, rfl, h0, h1, rfl⟩

-- @has Trunc
theorem archTrunc_run (b c : Nat) (h : cl .f64 b = some c) (w : World) : (callFunc 73 #[.float .f64 b]).run Try.prog w = .ok (.value (.float .f64 (FloatKind.f64.format.write ((FloatKind.f64.format.read b).integral .zero)))) w := by
  rw [run_callFunc_extern Try.func73 (e := Extern.MathFloor.toIntegral "math.archTrunc" .zero) (by kernel_rfl) (by kernel_rfl) (by kernel_rfl) (by kernel_rfl), run_integral w _ _ _ _ h]; rfl
theorem trunc_c (b c : Nat) (h : cl .f64 b = some c) (w : World) : Calls Try.prog 68 #[.float .f64 b] w (RetV (.float .f64 (FloatKind.f64.format.write ((FloatKind.f64.format.read b).integral .zero))) w) := by
  have hx := archTrunc_run b c h
  clear h
  go_enter Try.func68, Try.ntmps68
  go_wp2
  go_ret
  exact ⟨0, rfl, rfl⟩

-- @has behind
theorem behind_c (b : Nat) (h : Tur b) (w : World) : Calls Try.prog 49 #[.float .f64 b] w (RetF .f64 (behC b) w) := by
  have tl := tst_lt .f64
  have hb := Lib.hid h.1
  have T := Lib.hid (trunc_add h)
  unfold behC
  cases hq : flt .f64 (fracC b) (cl .f64 0)
  all_goals
    go_enter Try.func49, Try.ntmps49
    go_wp2_with (first | (go_at_call 68; refine (trunc_c _ _ hb.out _).mono ?_; rintro e w1 ⟨m, rfl, rfl⟩) | (refine wpList_farith _ .sub _ _ _ _ rfl rfl _ _ _ rfl rfl rfl ?_; intro m2 n2 g2; rw [g1, T.out, hb.out] at g2; change cl .f64 m2 = fracC b at g2) | (refine wpList_farith _ .add _ _ _ _ rfl rfl _ _ _ rfl rfl rfl ?_; intro m1 n1 g1))
    go_ret
    exact ⟨_, _, rfl, by simp only [*], rfl⟩

-- @has sine
set_option maxHeartbeats 4000000 in
theorem sine_c (b : Nat) (h : Tur b) (w : World) : Calls Try.prog 44 #[.float .f64 b] w (RetF .f64 (sinC b) w) := by
  have tg := tst_gt .f64
  have te := tst_eq .f64
  have tq : ∀ f, fgt .f64 f (cl .f64 4598175219545276416) = sinQ f := fun _ => rfl
  have tt : ∀ f, (fgt .f64 f (cl .f64 4602678819172646912) || feq .f64 f (cl .f64 4602678819172646912)) = sinT f := fun _ => rfl
  obtain ⟨F, hF⟩ : ∃ F, F = behC b := ⟨_, rfl⟩
  obtain ⟨Z, hZ⟩ : ∃ Z, Z = sinZ F := ⟨_, rfl⟩
  have FF := Lib.hid hF
  have ZZ := Lib.hid hZ
  have e : sinC b = if sinT F then negC (sinO Z) else sinO Z := by rw [hZ, hF]; rfl
  rw [e]
  clear hF hZ e
  cases t1 : sinT F
  all_goals cases t2 : sinQ (sinA (sinT F) F)
  all_goals
    rw [t1] at t2
    have E1 := Lib.hid t1
    have E2 := Lib.hid t2
    unfold sinA at t2
    (try simp only [if_true, Bool.false_eq_true, if_false] at t2)
    go_enter Try.func44, Try.ntmps44
    go_wp2_with (first | ((go_at_call 49; refine (behind_c _ h _).mono ?_; rintro e w1 ⟨r, n, rfl, hr, rfl⟩); rw [← FF.out] at hr) | (refine wpList_farith _ .sub _ _ _ _ rfl rfl _ _ _ rfl rfl rfl ?_; intro m1 n1 g1) | (refine wpList_farith _ .mul _ _ _ _ rfl rfl _ _ _ rfl rfl rfl ?_; intro z nz gz; have hz : cl .f64 z = Z := by rw [ZZ.out]; unfold sinZ; rw [E1.out, E2.out]; simp only [sinA, sinB, if_true, if_false, Bool.false_eq_true]; simp only [*]; done) | (refine wpList_farith _ .mul _ _ _ _ rfl rfl _ _ _ rfl rfl rfl ?_; intro u nu gu; have hu : cl .f64 u = sinU Z := by rw [gu, hz]; rfl))
    clear gz gu
    have hu' := Lib.hid hu
    clear hu
    go_loopw [7, 8] (fun p i wr => ∃ j n q : Nat, j ≤ 8 ∧ i = .int .i64 (8 - (j : Int)) ∧ p = .float .f64 q ∧ cl .f64 q = sinP (sinU Z) j ∧ wr = w.drewN n) (fun _ i _ => (intOf i + 2).toNat)
    case atStart => exact ⟨0, _, _, Nat.zero_le _, rfl, rfl, rfl, rfl⟩
    case round =>
      obtain ⟨j, n, q, hj, rfl, rfl, hq, rfl⟩ := hrel
      have hp' := Lib.hid hq
      clear hq
      by_cases hlt : j < 8
      · go_wp2_with (first | (refine wpList_farith _ .mul _ _ _ _ rfl rfl _ _ _ rfl rfl rfl ?_; intro m1 n1 g1) | (refine wpList_farith _ .quo _ _ _ _ rfl rfl _ _ _ rfl rfl rfl ?_; intro m2 n2 g2) | (refine wpList_farith _ .sub _ _ _ _ rfl rfl _ _ _ rfl rfl rfl ?_; intro m3 n3 g3))
        go_roundw
        case rel => exact ⟨j + 1, _, _, by omega, by go_num, rfl, by rw [sin_wrap j hlt] at g2; rw [sinP, ← hp'.out, ← hu'.out]; unfold i2f; simp only [*], rfl⟩
        case measure => simp [intOf]; omega
      · obtain rfl : j = 8 := by omega
        go_wp2_with (refine wpList_farith _ .mul _ _ _ _ rfl rfl _ _ _ rfl rfl rfl ?_; intro o no go; have ho : cl .f64 o = sinO Z := by (rw [go, hz, hp'.out]; rfl))
        all_goals
          go_ret
          exact ⟨_, _, rfl, by simp [cl_neg, ho], rfl⟩

-- @has IsNaN
theorem isNaN_c (b : Nat) (w : World) : Calls Try.prog 66 #[.float .f64 b] w (RetV (.bool (cl .f64 b).isNone) w) := by
  rcases h : cl .f64 b with _ | c
  · go_enter Try.func66, Try.ntmps66
    go_wp2
    go_ret
    exact ⟨0, rfl, rfl⟩
  · have hs := ford_self h
    go_enter Try.func66, Try.ntmps66
    go_wp2
    go_ret
    exact ⟨0, rfl, rfl⟩

-- @has Float64bits
theorem f64bits_run (x : Nat) (w : World) : (callFunc 62 #[.float .f64 x]).run Try.prog w = .ok (.value (.int .u64 x)) w := by
  rw [run_callFunc_extern Try.func62 (e := Extern.MathFloatBits.float64bits) (by kernel_rfl) (by kernel_rfl) (by kernel_rfl) (by kernel_rfl)]; rfl

-- @has Abs
theorem abs_c (b : Nat) (w : World) : Calls Try.prog 43 #[.float .f64 b] w (RetF .f64 (absC (cl .f64 b)) w) := by
  have hx := f64bits_run
  have hy := f64from_run
  go_enter Try.func43, Try.ntmps43
  go_wp2
  go_ret
  exact ⟨_, 0, rfl, by rw [bits_andNot63]; exact cl_abs b, rfl⟩

-- @has IsInf
theorem isInf_c (b c : Nat) (h : cl .f64 b = some c) (w : World) : Calls Try.prog 67 #[.float .f64 b, .int .i64 0] w (RetV (.bool (!isFin .f64 (some c))) w) := by
  have h2 := isInf_eq b c h
  rw [maxFin_eq] at h2
  go_enter Try.func67, Try.ntmps67
  go_wp2_with (go_at_call 43; refine (abs_c _ _).mono ?_; rintro e w' ⟨r, n, rfl, hr, rfl⟩)
  go_ret
  exact ⟨_, rfl, rfl⟩

-- @has finite
theorem finite_c (b : Nat) (w : World) : Calls Try.prog 48 #[.float .f64 b] w (RetV (.bool (isFin .f64 (cl .f64 b))) w) := by
  rcases h : cl .f64 b with _ | c
  · go_enter Try.func48, Try.ntmps48
    go_wp2_with (go_at_call 66; refine (isNaN_c _ _).mono ?_; rintro e w' ⟨n, rfl, rfl⟩)
    go_ret
    exact ⟨_, rfl, rfl⟩
  · cases hf : isFin .f64 (some c)
    all_goals
      go_enter Try.func48, Try.ntmps48
      go_wp2_with (first | (go_at_call 66; refine (isNaN_c _ _).mono ?_; rintro e w' ⟨n, rfl, rfl⟩) | (go_at_call 67; refine (isInf_c _ c h _).mono ?_; rintro e w' ⟨n, rfl, rfl⟩))
      go_ret
      exact ⟨_, rfl, rfl⟩

-- @has implPhasorOf
theorem sine_k {c : Option Nat} {E : Nat} (m : Nat) (h : cl .f64 m = c) (hl : LeE c E) (hE : E < 1075) (w : World) : Calls Try.prog 44 #[.float .f64 m] w (RetF .f64 (sinK c) w) := by
  rw [sinK_of h (tur_of_le hl hE h)]
  exact sine_c _ (tur_of_le hl hE h) _
theorem implPhasor_nan (b : Nat) (hf : isFin .f64 (cl .f64 b) = false) (w : World) : Calls Try.prog 23 #[.float .f64 b] w (RetC .f32 none none w) := by
  go_enter Try.func23, Try.ntmps23
  go_wp2_with (first | (go_at_call 48; refine (finite_c _ _).mono ?_; rintro e w1 ⟨n, rfl, rfl⟩) | (go_at_call 34; refine (nan_c _).mono ?_; rintro e w1 ⟨n, rfl, rfl⟩) | (refine wpList_narrow _ _ _ _ rfl _ rfl Try.underlying22 (by rw [Try.underlying25]; rfl) rfl (by decide +kernel) ?_; intro b1 n1 h1))
  all_goals
    go_ret
    exact ⟨_, _, _, rfl, by rw [h1]; decide +kernel, by rw [h1]; decide +kernel, rfl⟩
theorem implPhasor_far (b : Nat) (hb : cl .f64 b = some b) (hf : isFin .f64 (cl .f64 b) = true) (h : 1075 * 2 ^ 52 ≤ rung FloatKind.f64.format b) (w : World) : Calls Try.prog 23 #[.float .f64 b] w (RetC .f32 (cl .f32 1065353216) (cl .f32 0) w) := by
  have tg := tst_gt .f64
  have te := tst_eq .f64
  have a1 := (far_abs hb).trans (decide_eq_true h)
  rw [← hb] at a1
  clear h hb
  go_enter Try.func23, Try.ntmps23
  go_wp2_with (first | (go_at_call 48; refine (finite_c _ _).mono ?_; rintro e w1 ⟨n, rfl, rfl⟩) | (go_at_call 43; refine (abs_c _ _).mono ?_; rintro e w1 ⟨r, n, rfl, hr, rfl⟩))
  all_goals
    go_ret
    exact ⟨_, _, _, rfl, rfl, rfl, rfl⟩
set_option maxHeartbeats 4000000 in
theorem implPhasor_c (b j : Nat) (h : Tur b) (hj : First b j) (w : World) : Calls Try.prog 23 #[.float .f64 b] w (RetC .f32 (narrow (phRe b j)) (narrow (phIm b j)) w) := by
  have tg := tst_gt .f64
  have te := tst_eq .f64
  have hf := tur_fin h
  have a1 := (far_abs h.1).trans (decide_eq_false (Nat.not_le_of_lt h.2))
  rw [← h.1] at a1
  have tp : ∀ f, (fgt .f64 f (cl .f64 4598175219545276416) || feq .f64 f (cl .f64 4598175219545276416)) = phG f := fun _ => rfl
  have J := Lib.hid hj
  have PL := Lib.hid (phF_le h hj j (Nat.le_refl _))
  have AL := Lib.hid (phA_le h hj)
  have FT := Lib.hid (ph_fits h hj)
  have hsm := ph_small h hj
  clear hj
  by_cases j1 : (j : Int) = 1
  · rw [(phRe_1 j1).1, (phRe_1 j1).2]
    go_enter Try.func23, Try.ntmps23
    go_wp2_with (first | (go_at_call 48; refine (finite_c _ _).mono ?_; rintro e w1 ⟨n, rfl, rfl⟩) | (go_at_call 43; refine (abs_c _ _).mono ?_; rintro e w1 ⟨r, n, rfl, hr, rfl⟩) | (go_at_call 49; refine (behind_c _ h _).mono ?_; rintro e w1 ⟨r, n, rfl, hf0, rfl⟩))
    go_loopw [4, 5] (fun f q wr => ∃ i n p : Nat, i ≤ j ∧ f = .float .f64 p ∧ cl .f64 p = phF b i ∧ q = .int .i64 (i : Int) ∧ wr = w.drewN n) (fun _ q _ => j - (intOf q).toNat)
    case atStart => exact ⟨0, _, _, Nat.zero_le _, rfl, hf0, rfl, rfl⟩
    case round =>
      obtain ⟨i, n, p, hi, rfl, hq, rfl, rfl⟩ := hrel
      by_cases hlt : i < j
      · have ht : phG (cl .f64 p) = true := by rw [hq]; exact J.out.2 i hlt
        have hq' := Lib.hid hq
        clear hq
        go_wp2_with (refine wpList_farith _ .sub _ _ _ _ rfl rfl _ _ _ rfl rfl rfl ?_; intro m1 n1 g1)
        go_roundw
        case rel => exact ⟨i + 1, _, _, hlt, rfl, by rw [g1, hq'.out]; rfl, by go_num, rfl⟩
        case measure => simp [intOf]; omega
      · obtain rfl : j = i := by omega
        have ht : phG (cl .f64 p) = false := by rw [hq]; exact J.out.1
        have hq' := Lib.hid hq
        clear hq
        go_wp2_with (first | (refine wpList_farith _ .sub _ _ _ _ rfl rfl _ _ _ rfl rfl rfl ?_; intro m nm gm; (have gA : cl .f64 m = phA b j := by (rw [gm, hq'.out]; rfl))) | (refine wpList_farith _ .sub _ _ _ _ rfl rfl _ _ _ rfl rfl rfl ?_; intro d nd gd; (have gs : cl .f64 d = fop .sub .f64 (cl .f64 0) (phSin b j) := by (rw [gd, hs]))) | (refine wpList_farith _ .sub _ _ _ _ rfl rfl _ _ _ rfl rfl rfl ?_; intro e ne ge; (have gc : cl .f64 e = fop .sub .f64 (cl .f64 0) (phCos b j) := by (rw [ge, hc]))) | (go_at_call 44; refine (sine_k (c := phA b j) (E := 1025) _ (by with_reducible exact gA) AL.out (by decide) _).mono ?_; rintro e w1 ⟨c, nc, rfl, hc, rfl⟩; change cl .f64 c = phCos b j at hc) | (go_at_call 44; refine (sine_k (c := phF b j) (E := 1024) _ (by with_reducible exact hq'.out) PL.out (by decide) _).mono ?_; rintro e w1 ⟨s, ns, rfl, hs, rfl⟩; change cl .f64 s = phSin b j at hs) | (refine wpList_narrow _ _ _ _ rfl _ rfl Try.underlying22 (by rw [Try.underlying25]; rfl) rfl (by rw [hc]; exact FT.out.1) ?_; intro xkc nxkc kc; rw [hc] at kc) | (refine wpList_narrow _ _ _ _ rfl _ rfl Try.underlying22 (by rw [Try.underlying25]; rfl) rfl (by rw [hs]; exact FT.out.2.1) ?_; intro xks nxks ks; rw [hs] at ks) | (refine wpList_narrow _ _ _ _ rfl _ rfl Try.underlying22 (by rw [Try.underlying25]; rfl) rfl (by rw [gc]; exact FT.out.2.2.1) ?_; intro xkgc nxkgc kgc; rw [gc] at kgc) | (refine wpList_narrow _ _ _ _ rfl _ rfl Try.underlying22 (by rw [Try.underlying25]; rfl) rfl (by rw [gs]; exact FT.out.2.2.2) ?_; intro xkgs nxkgs kgs; rw [gs] at kgs))
        all_goals
          go_ret
          exact ⟨_, _, _, rfl, by assumption, by assumption, rfl⟩
  by_cases j2 : (j : Int) = 2
  · rw [(phRe_2 j2).1, (phRe_2 j2).2]
    go_enter Try.func23, Try.ntmps23
    go_wp2_with (first | (go_at_call 48; refine (finite_c _ _).mono ?_; rintro e w1 ⟨n, rfl, rfl⟩) | (go_at_call 43; refine (abs_c _ _).mono ?_; rintro e w1 ⟨r, n, rfl, hr, rfl⟩) | (go_at_call 49; refine (behind_c _ h _).mono ?_; rintro e w1 ⟨r, n, rfl, hf0, rfl⟩))
    go_loopw [4, 5] (fun f q wr => ∃ i n p : Nat, i ≤ j ∧ f = .float .f64 p ∧ cl .f64 p = phF b i ∧ q = .int .i64 (i : Int) ∧ wr = w.drewN n) (fun _ q _ => j - (intOf q).toNat)
    case atStart => exact ⟨0, _, _, Nat.zero_le _, rfl, hf0, rfl, rfl⟩
    case round =>
      obtain ⟨i, n, p, hi, rfl, hq, rfl, rfl⟩ := hrel
      by_cases hlt : i < j
      · have ht : phG (cl .f64 p) = true := by rw [hq]; exact J.out.2 i hlt
        have hq' := Lib.hid hq
        clear hq
        go_wp2_with (refine wpList_farith _ .sub _ _ _ _ rfl rfl _ _ _ rfl rfl rfl ?_; intro m1 n1 g1)
        go_roundw
        case rel => exact ⟨i + 1, _, _, hlt, rfl, by rw [g1, hq'.out]; rfl, by go_num, rfl⟩
        case measure => simp [intOf]; omega
      · obtain rfl : j = i := by omega
        have ht : phG (cl .f64 p) = false := by rw [hq]; exact J.out.1
        have hq' := Lib.hid hq
        clear hq
        go_wp2_with (first | (refine wpList_farith _ .sub _ _ _ _ rfl rfl _ _ _ rfl rfl rfl ?_; intro m nm gm; (have gA : cl .f64 m = phA b j := by (rw [gm, hq'.out]; rfl))) | (refine wpList_farith _ .sub _ _ _ _ rfl rfl _ _ _ rfl rfl rfl ?_; intro d nd gd; (have gs : cl .f64 d = fop .sub .f64 (cl .f64 0) (phSin b j) := by (rw [gd, hs]))) | (refine wpList_farith _ .sub _ _ _ _ rfl rfl _ _ _ rfl rfl rfl ?_; intro e ne ge; (have gc : cl .f64 e = fop .sub .f64 (cl .f64 0) (phCos b j) := by (rw [ge, hc]))) | (go_at_call 44; refine (sine_k (c := phA b j) (E := 1025) _ (by with_reducible exact gA) AL.out (by decide) _).mono ?_; rintro e w1 ⟨c, nc, rfl, hc, rfl⟩; change cl .f64 c = phCos b j at hc) | (go_at_call 44; refine (sine_k (c := phF b j) (E := 1024) _ (by with_reducible exact hq'.out) PL.out (by decide) _).mono ?_; rintro e w1 ⟨s, ns, rfl, hs, rfl⟩; change cl .f64 s = phSin b j at hs) | (refine wpList_narrow _ _ _ _ rfl _ rfl Try.underlying22 (by rw [Try.underlying25]; rfl) rfl (by rw [hc]; exact FT.out.1) ?_; intro xkc nxkc kc; rw [hc] at kc) | (refine wpList_narrow _ _ _ _ rfl _ rfl Try.underlying22 (by rw [Try.underlying25]; rfl) rfl (by rw [hs]; exact FT.out.2.1) ?_; intro xks nxks ks; rw [hs] at ks) | (refine wpList_narrow _ _ _ _ rfl _ rfl Try.underlying22 (by rw [Try.underlying25]; rfl) rfl (by rw [gc]; exact FT.out.2.2.1) ?_; intro xkgc nxkgc kgc; rw [gc] at kgc) | (refine wpList_narrow _ _ _ _ rfl _ rfl Try.underlying22 (by rw [Try.underlying25]; rfl) rfl (by rw [gs]; exact FT.out.2.2.2) ?_; intro xkgs nxkgs kgs; rw [gs] at kgs))
        all_goals
          go_ret
          exact ⟨_, _, _, rfl, by assumption, by assumption, rfl⟩
  by_cases j3 : (j : Int) = 3
  · rw [(phRe_3 j3).1, (phRe_3 j3).2]
    go_enter Try.func23, Try.ntmps23
    go_wp2_with (first | (go_at_call 48; refine (finite_c _ _).mono ?_; rintro e w1 ⟨n, rfl, rfl⟩) | (go_at_call 43; refine (abs_c _ _).mono ?_; rintro e w1 ⟨r, n, rfl, hr, rfl⟩) | (go_at_call 49; refine (behind_c _ h _).mono ?_; rintro e w1 ⟨r, n, rfl, hf0, rfl⟩))
    go_loopw [4, 5] (fun f q wr => ∃ i n p : Nat, i ≤ j ∧ f = .float .f64 p ∧ cl .f64 p = phF b i ∧ q = .int .i64 (i : Int) ∧ wr = w.drewN n) (fun _ q _ => j - (intOf q).toNat)
    case atStart => exact ⟨0, _, _, Nat.zero_le _, rfl, hf0, rfl, rfl⟩
    case round =>
      obtain ⟨i, n, p, hi, rfl, hq, rfl, rfl⟩ := hrel
      by_cases hlt : i < j
      · have ht : phG (cl .f64 p) = true := by rw [hq]; exact J.out.2 i hlt
        have hq' := Lib.hid hq
        clear hq
        go_wp2_with (refine wpList_farith _ .sub _ _ _ _ rfl rfl _ _ _ rfl rfl rfl ?_; intro m1 n1 g1)
        go_roundw
        case rel => exact ⟨i + 1, _, _, hlt, rfl, by rw [g1, hq'.out]; rfl, by go_num, rfl⟩
        case measure => simp [intOf]; omega
      · obtain rfl : j = i := by omega
        have ht : phG (cl .f64 p) = false := by rw [hq]; exact J.out.1
        have hq' := Lib.hid hq
        clear hq
        go_wp2_with (first | (refine wpList_farith _ .sub _ _ _ _ rfl rfl _ _ _ rfl rfl rfl ?_; intro m nm gm; (have gA : cl .f64 m = phA b j := by (rw [gm, hq'.out]; rfl))) | (refine wpList_farith _ .sub _ _ _ _ rfl rfl _ _ _ rfl rfl rfl ?_; intro d nd gd; (have gs : cl .f64 d = fop .sub .f64 (cl .f64 0) (phSin b j) := by (rw [gd, hs]))) | (refine wpList_farith _ .sub _ _ _ _ rfl rfl _ _ _ rfl rfl rfl ?_; intro e ne ge; (have gc : cl .f64 e = fop .sub .f64 (cl .f64 0) (phCos b j) := by (rw [ge, hc]))) | (go_at_call 44; refine (sine_k (c := phA b j) (E := 1025) _ (by with_reducible exact gA) AL.out (by decide) _).mono ?_; rintro e w1 ⟨c, nc, rfl, hc, rfl⟩; change cl .f64 c = phCos b j at hc) | (go_at_call 44; refine (sine_k (c := phF b j) (E := 1024) _ (by with_reducible exact hq'.out) PL.out (by decide) _).mono ?_; rintro e w1 ⟨s, ns, rfl, hs, rfl⟩; change cl .f64 s = phSin b j at hs) | (refine wpList_narrow _ _ _ _ rfl _ rfl Try.underlying22 (by rw [Try.underlying25]; rfl) rfl (by rw [hc]; exact FT.out.1) ?_; intro xkc nxkc kc; rw [hc] at kc) | (refine wpList_narrow _ _ _ _ rfl _ rfl Try.underlying22 (by rw [Try.underlying25]; rfl) rfl (by rw [hs]; exact FT.out.2.1) ?_; intro xks nxks ks; rw [hs] at ks) | (refine wpList_narrow _ _ _ _ rfl _ rfl Try.underlying22 (by rw [Try.underlying25]; rfl) rfl (by rw [gc]; exact FT.out.2.2.1) ?_; intro xkgc nxkgc kgc; rw [gc] at kgc) | (refine wpList_narrow _ _ _ _ rfl _ rfl Try.underlying22 (by rw [Try.underlying25]; rfl) rfl (by rw [gs]; exact FT.out.2.2.2) ?_; intro xkgs nxkgs kgs; rw [gs] at kgs))
        all_goals
          go_ret
          exact ⟨_, _, _, rfl, by assumption, by assumption, rfl⟩
  rw [(phRe_0 j1 j2 j3).1, (phRe_0 j1 j2 j3).2]
  go_enter Try.func23, Try.ntmps23
  go_wp2_with (first | (go_at_call 48; refine (finite_c _ _).mono ?_; rintro e w1 ⟨n, rfl, rfl⟩) | (go_at_call 43; refine (abs_c _ _).mono ?_; rintro e w1 ⟨r, n, rfl, hr, rfl⟩) | (go_at_call 49; refine (behind_c _ h _).mono ?_; rintro e w1 ⟨r, n, rfl, hf0, rfl⟩))
  go_loopw [4, 5] (fun f q wr => ∃ i n p : Nat, i ≤ j ∧ f = .float .f64 p ∧ cl .f64 p = phF b i ∧ q = .int .i64 (i : Int) ∧ wr = w.drewN n) (fun _ q _ => j - (intOf q).toNat)
  case atStart => exact ⟨0, _, _, Nat.zero_le _, rfl, hf0, rfl, rfl⟩
  case round =>
    obtain ⟨i, n, p, hi, rfl, hq, rfl, rfl⟩ := hrel
    by_cases hlt : i < j
    · have ht : phG (cl .f64 p) = true := by rw [hq]; exact J.out.2 i hlt
      have hq' := Lib.hid hq
      clear hq
      go_wp2_with (refine wpList_farith _ .sub _ _ _ _ rfl rfl _ _ _ rfl rfl rfl ?_; intro m1 n1 g1)
      go_roundw
      case rel => exact ⟨i + 1, _, _, hlt, rfl, by rw [g1, hq'.out]; rfl, by go_num, rfl⟩
      case measure => simp [intOf]; omega
    · obtain rfl : j = i := by omega
      have ht : phG (cl .f64 p) = false := by rw [hq]; exact J.out.1
      have hq' := Lib.hid hq
      clear hq
      go_wp2_with (first | (refine wpList_farith _ .sub _ _ _ _ rfl rfl _ _ _ rfl rfl rfl ?_; intro m nm gm; (have gA : cl .f64 m = phA b j := by (rw [gm, hq'.out]; rfl))) | (refine wpList_farith _ .sub _ _ _ _ rfl rfl _ _ _ rfl rfl rfl ?_; intro d nd gd; (have gs : cl .f64 d = fop .sub .f64 (cl .f64 0) (phSin b j) := by (rw [gd, hs]))) | (refine wpList_farith _ .sub _ _ _ _ rfl rfl _ _ _ rfl rfl rfl ?_; intro e ne ge; (have gc : cl .f64 e = fop .sub .f64 (cl .f64 0) (phCos b j) := by (rw [ge, hc]))) | (go_at_call 44; refine (sine_k (c := phA b j) (E := 1025) _ (by with_reducible exact gA) AL.out (by decide) _).mono ?_; rintro e w1 ⟨c, nc, rfl, hc, rfl⟩; change cl .f64 c = phCos b j at hc) | (go_at_call 44; refine (sine_k (c := phF b j) (E := 1024) _ (by with_reducible exact hq'.out) PL.out (by decide) _).mono ?_; rintro e w1 ⟨s, ns, rfl, hs, rfl⟩; change cl .f64 s = phSin b j at hs) | (refine wpList_narrow _ _ _ _ rfl _ rfl Try.underlying22 (by rw [Try.underlying25]; rfl) rfl (by rw [hc]; exact FT.out.1) ?_; intro xkc nxkc kc; rw [hc] at kc) | (refine wpList_narrow _ _ _ _ rfl _ rfl Try.underlying22 (by rw [Try.underlying25]; rfl) rfl (by rw [hs]; exact FT.out.2.1) ?_; intro xks nxks ks; rw [hs] at ks) | (refine wpList_narrow _ _ _ _ rfl _ rfl Try.underlying22 (by rw [Try.underlying25]; rfl) rfl (by rw [gc]; exact FT.out.2.2.1) ?_; intro xkgc nxkgc kgc; rw [gc] at kgc) | (refine wpList_narrow _ _ _ _ rfl _ rfl Try.underlying22 (by rw [Try.underlying25]; rfl) rfl (by rw [gs]; exact FT.out.2.2.2) ?_; intro xkgs nxkgs kgs; rw [gs] at kgs))
      all_goals
        go_ret
        exact ⟨_, _, _, rfl, by assumption, by assumption, rfl⟩

-- @has sameFloat
set_option maxHeartbeats 400000 in
theorem sameFloat_true (a b : Nat) (h : cl .f64 a = cl .f64 b) (w : World) :
    Calls Try.prog 13 #[.float .f64 a, .float .f64 b] w (RetV (.bool true) w) := by
  generalize hb : cl .f64 b = c at h
  rcases c with _ | c
  · go_enter Try.func13, Try.ntmps13
    go_wp2
    go_ret
    exact ⟨0, rfl, rfl⟩
  · have hs := ford_self h
    rcases h0 : ford .f64 (some c) (cl .f64 0) with _ | (_ | _ | _)
    all_goals
      go_enter Try.func13, Try.ntmps13
      go_wp2_with (refine wpList_farith _ _ _ _ _ _ rfl rfl _ _ _ rfl rfl rfl ?_; intro b1 n1 h1)
      go_ret
      first | exact ⟨0, rfl, rfl⟩ | exact ⟨_, rfl, rfl⟩

-- @has FnExactPhasorOf
theorem sameComplex_true (a b c d : Nat) (h1 : cl .f64 a = cl .f64 c) (h2 : cl .f64 b = cl .f64 d) (w : World) : Calls Try.prog 24 #[.complex .f64 a b, .complex .f64 c d] w (RetV (.bool true) w) := by
  have H1 := Lib.hid h1
  have H2 := Lib.hid h2
  clear h1 h2
  go_enter Try.func24, Try.ntmps24
  go_wp2_with (first | (go_at_call 13; refine (sameFloat_true _ _ (by with_reducible exact H1.out) _).mono ?_; rintro e w1 ⟨n, rfl, rfl⟩) | (go_at_call 13; refine (sameFloat_true _ _ (by with_reducible exact H2.out) _).mono ?_; rintro e w1 ⟨n, rfl, rfl⟩))
  all_goals
    go_ret
    exact ⟨_, rfl, rfl⟩
theorem phasor_law {r0 r1 : Option Nat} (b : Nat) (w : World) (h : ∀ w, Calls Try.prog 22 #[.float .f64 b] w (RetC .f32 r0 r1 w)) (h' : ∀ w, Calls Try.prog 23 #[.float .f64 b] w (RetC .f32 r0 r1 w)) : Calls Try.prog 8 #[.float .f64 b] w fun e w' => e = .returned (.bool true) ∧ Below w.heap.size w w' := by
  go_enter Try.func8, Try.ntmps8
  go_wp2_with (first | (go_at_call 22; refine (h _).mono ?_; rintro e w1 ⟨p, q, n, rfl, h0, h1, rfl⟩) | (go_at_call 23; refine (h' _).mono ?_; rintro e w1 ⟨s, t, m, rfl, g0, g1, rfl⟩) | (refine wpList_cwiden _ _ _ _ rfl _ _ rfl Try.underlying34 (by rw [Try.underlying31]; rfl) rfl ?_; intro c d n k0 k1) | (go_at_call 24; refine (sameComplex_true _ _ _ _ (by simp only [*]) (by simp only [*]) _).mono ?_; rintro e w1 ⟨n, rfl, rfl⟩))
  all_goals
    go_ret
    exact ⟨rfl, below_drewN (Below.refl _ _) _⟩
theorem walk_FnExactPhasorOf (b : Nat) (_hx : b < 2 ^ 64) (w : World) : Calls Try.prog 8 #[.float .f64 b] w fun e w' => e = .returned (.bool true) ∧ Below w.heap.size w w' := by
  cases hf : isFin .f64 (cl .f64 b)
  · exact phasor_law b w (fun w => specPhasor_k b w (l01Phasor_nan b hf)) (implPhasor_nan b hf)
  · rcases hb : cl .f64 b with _ | c
    · rw [hb] at hf; exact absurd hf (by decide)
    obtain ⟨rfl, -⟩ := cl_some hb
    by_cases h : 1075 * 2 ^ 52 ≤ rung FloatKind.f64.format b
    · exact phasor_law b w (fun w => specPhasor_k b w (l01Phasor_far b hb hf h)) (implPhasor_far b hb hf h)
    · have hT : Tur b := ⟨hb, by omega⟩
      obtain ⟨j, hj⟩ := ph_first hT
      exact phasor_law b w (fun w => specPhasor_k b w (l01Phasor_c b j hT hj)) (implPhasor_c b j hT hj)

end Go.Proofs.Ytabacjajikiaoaa
