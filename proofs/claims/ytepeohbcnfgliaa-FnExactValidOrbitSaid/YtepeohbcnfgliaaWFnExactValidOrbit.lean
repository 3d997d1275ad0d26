/- Contracts of Go functions: what each returns, as a class of words, whatever the world. -/
import Derived.Test.YtepeohbcnfgliaaOrb
import Derived.Test.YtepeohbcnfgliaaProg
import Derived.BigQuiet
import Derived.Deep.QuietTactic
import Derived.Deep.RegionHeld3
import Derived.Deep.DeepFit
import Derived.WalkSpells
import Derived.Lib.Hide
import Derived.WalkSmall
import Derived.Deep.DeepCutAuto
namespace Go.Proofs.Ytepeohbcnfgliaa
open Go.RowKit Go.Fl

-- @has toOrbit
set_option maxHeartbeats 800000 in
theorem toOrbit_c (x0 x1 x2 x3 x4 x5 : Nat) (w : World) : Calls Try.prog 11 #[.agg #[.float .f32 x0, .float .f32 x1, .float .f32 x2, .float .f32 x3, .float .f32 x4, .float .f32 x5]] w fun e w' => e = .returned (.agg #[.float .f32 x0, .float .f32 x1, .float .f32 x2, .float .f32 x3, .float .f32 x4, .float .f32 x5]) ∧ Gro w w' := by
  go_enter Try.func11, Try.ntmps11
  go_wp2
  exact bodyPost_ret (v := .agg #[.float .f32 x0, .float .f32 x1, .float .f32 x2, .float .f32 x3, .float .f32 x4, .float .f32 x5]) (by simp [results, Try.results11, go_sem]) rfl ⟨rfl, (((Gro.refl _).alloc _).alloc _).alloc _⟩

-- @has IsNaN
theorem isNaN_c (b : Nat) (w : World) : Calls Try.prog 59 #[.float .f64 b] w (RetV (.bool (cl .f64 b).isNone) w) := by
  rcases h : cl .f64 b with _ | c
  · go_enter Try.func59, Try.ntmps59
    go_wp2
    go_ret
    exact ⟨0, rfl, rfl⟩
  · have hs := ford_self h
    go_enter Try.func59, Try.ntmps59
    go_wp2
    go_ret
    exact ⟨0, rfl, rfl⟩

-- @has Float64bits
theorem f64bits_run (x : Nat) (w : World) : (callFunc 58 #[.float .f64 x]).run Try.prog w = .ok (.value (.int .u64 x)) w := by
  rw [run_callFunc_extern Try.func58 (e := Extern.MathFloatBits.float64bits) (by kernel_rfl) (by kernel_rfl) (by kernel_rfl) (by kernel_rfl)]; rfl

-- @has Float64frombits
theorem f64from_run (n : Int) (w : World) : (callFunc 62 #[.int .u64 n]).run Try.prog w = .ok (.value (.float .f64 n.toNat)) w := by
  rw [run_callFunc_extern Try.func62 (e := Extern.MathFloatBits.float64frombits) (by kernel_rfl) (by kernel_rfl) (by kernel_rfl) (by kernel_rfl)]; rfl

-- @has Abs
theorem abs_c (b : Nat) (w : World) : Calls Try.prog 61 #[.float .f64 b] w (RetF .f64 (absC (cl .f64 b)) w) := by
  have hx := f64bits_run
  have hy := f64from_run
  go_enter Try.func61, Try.ntmps61
  go_wp2
  go_ret
  exact ⟨_, 0, rfl, by rw [bits_andNot63]; exact cl_abs b, rfl⟩

-- @has IsInf
theorem isInf_c (b c : Nat) (h : cl .f64 b = some c) (w : World) : Calls Try.prog 60 #[.float .f64 b, .int .i64 0] w (RetV (.bool (!isFin .f64 (some c))) w) := by
  have h2 := isInf_eq b c h
  rw [maxFin_eq] at h2
  go_enter Try.func60, Try.ntmps60
  go_wp2_with (go_at_call 61; refine (abs_c _ _).mono ?_; rintro e w' ⟨r, n, rfl, hr, rfl⟩)
  go_ret
  exact ⟨_, rfl, rfl⟩

-- @has finite
theorem finite_c (b : Nat) (w : World) : Calls Try.prog 57 #[.float .f64 b] w (RetV (.bool (isFin .f64 (cl .f64 b))) w) := by
  rcases h : cl .f64 b with _ | c
  · go_enter Try.func57, Try.ntmps57
    go_wp2_with (go_at_call 59; refine (isNaN_c _ _).mono ?_; rintro e w' ⟨n, rfl, rfl⟩)
    go_ret
    exact ⟨_, rfl, rfl⟩
  · cases hf : isFin .f64 (some c)
    all_goals
      go_enter Try.func57, Try.ntmps57
      go_wp2_with (first | (go_at_call 59; refine (isNaN_c _ _).mono ?_; rintro e w' ⟨n, rfl, rfl⟩) | (go_at_call 60; refine (isInf_c _ c h _).mono ?_; rintro e w' ⟨n, rfl, rfl⟩))
      go_ret
      exact ⟨_, rfl, rfl⟩

-- @has implIsFinite
theorem implIsFinite_c (b : Nat) (w : World) : Calls Try.prog 50 #[.float .f32 b] w (RetV (.bool (isFin .f32 (cl .f32 b))) w) := by
  have hw := isFin_widen b
  go_enter Try.func50, Try.ntmps50
  go_wp2_with (first | (refine wpList_widen _ _ _ _ rfl _ rfl Try.underlying37 (by rw [Try.underlying22]; rfl) rfl ?_; intro b1 n1 h1) | (go_at_call 57; refine (finite_c _ _).mono ?_; rintro e w' ⟨n, rfl, rfl⟩))
  go_ret
  exact ⟨_, rfl, rfl⟩

-- @has areFinite1
theorem areFinite1_c (a : Nat) (w : World) : Calls Try.prog 49 #[.float .f32 a] w (RetV (.bool (!isFin .f32 (cl .f32 a))) w) := by
  go_enter Try.func49, Try.ntmps49
  go_wp2_with (go_at_call 50; refine (implIsFinite_c _ _).mono ?_; rintro e w1 ⟨m, rfl, rfl⟩)
  go_ret
  exact ⟨_, rfl, rfl⟩

-- @has IndexFunc
set_option maxHeartbeats 800000 in
theorem indexFunc_c (a : Option Addr) (len ca : Nat) (Z : Nat → Nat) (w : World) (h1 : SlF w a len Z) :
    Calls Try.prog 56 #[.slice a len ca, .func (.func 49) #[] #[]] w fun e w' => ∃ (r : Int) (n : Nat), e = .returned (.int .i64 r) ∧ (0 ≤ r ↔ allFin Z len = false) ∧ w' = w.drewN n := by
  have hm := h1.1
  unfold maxLen at hm
  go_enter Try.func56, Try.ntmps56
  go_wp2
  go_loopw [8] (fun i wr => ∃ k n : Nat, k ≤ len ∧ i = .int .i64 k ∧ allFin Z k = true ∧ wr = w.drewN n) (fun i _ => len - (intOf i).toNat)
  case atStart => exact ⟨0, 0, Nat.zero_le _, rfl, rfl, rfl⟩
  case round =>
    obtain ⟨k, n, hk, rfl, hq, rfl⟩ := hrel
    have hq' := Lib.hid hq
    clear hq
    by_cases hlt : k < len
    · obtain ⟨b1, o1, rfl, hc1⟩ := h1.2 (by omega)
      have c0 : w.cell? ⟨b1, o1 + k, none⟩ = some (.float .f32 (Z k)) := hc1 k hlt
      clear hc1 h1
      cases hs : isFin .f32 (cl .f32 (Z k))
      · have hs' := Lib.hid hs
        go_wp2_with (go_at_call 49; refine (areFinite1_c _ _).mono ?_; rintro e w1 ⟨m, rfl, rfl⟩)
        go_ret
        exact ⟨_, _, rfl, by simp [allFin_false hs'.out _ hlt], rfl⟩
      · have hs' := Lib.hid hs
        go_wp2_with (go_at_call 49; refine (areFinite1_c _ _).mono ?_; rintro e w1 ⟨m, rfl, rfl⟩)
        go_roundw
        case rel => exact ⟨k + 1, _, by omega, by go_num, by rw [allFin, hq'.out, hs'.out]; rfl, rfl⟩
        case measure => simp [intOf]; omega
    · have : k = len := by omega
      subst this
      go_wp2
      go_ret
      exact ⟨_, n, rfl, by simp [hq'.out], rfl⟩

-- @has areFinite
theorem containsFunc_c (a : Option Addr) (len ca : Nat) (Z : Nat → Nat) (w : World) (h1 : SlF w a len Z) :
    Calls Try.prog 48 #[.slice a len ca, .func (.func 49) #[] #[]] w (RetV (.bool (!allFin Z len)) w) := by
  go_enter Try.func48, Try.ntmps48
  go_wp2_with fail
  refine (indexFunc_c _ _ _ _ _ h1).mono ?_
  rintro e w1 ⟨r, n, rfl, hr, rfl⟩
  have hr' := Lib.hid hr
  clear hr
  go_wp2_with fail
  go_ret
  refine ⟨_, ?_, rfl⟩
  cases hf : allFin Z len <;> simp [hf, hr'.out]
theorem areFinite_c (a : Option Addr) (len ca : Nat) (Z : Nat → Nat) (w : World) (h1 : SlF w a len Z) :
    Calls Try.prog 30 #[.slice a len ca] w (RetV (.bool (allFin Z len)) w) := by
  go_enter Try.func30, Try.ntmps30
  go_wp2_with fail
  refine (containsFunc_c _ _ _ _ _ h1).mono ?_
  rintro e w1 ⟨n, rfl, rfl⟩
  go_wp2_with fail
  go_ret
  exact ⟨_, by simp, rfl⟩

-- @has isTurn
theorem isTurn_c (a : Nat) (w : World) : Calls Try.prog 31 #[.float .f32 a] w (RetV (.bool (turnB (cl .f32 a))) w) := by
  unfold turnB fge
  have tg := tst_gt .f32
  have tl := tst_lt .f32
  have te := tst_eq .f32
  go_enter Try.func31, Try.ntmps31
  go_wp2
  all_goals
    go_ret
    exact ⟨0, by simp [*], rfl⟩

-- @has isEllipse
set_option maxHeartbeats 800000 in
theorem isEllipse_c (x0 x1 x2 x3 x4 x5 : Nat) (w : World) : Calls Try.prog 32 #[.agg #[.float .f32 x0, .float .f32 x1, .float .f32 x2, .float .f32 x3, .float .f32 x4, .float .f32 x5]] w fun e w' => e = .returned (.bool (ellB (cl .f32 x0) (cl .f32 x1) (cl .f32 x5))) ∧ Gro w w' := by
  unfold ellB fge
  have tg := tst_gt .f32
  have tl := tst_lt .f32
  have te := tst_eq .f32
  go_enter Try.func32, Try.ntmps32
  go_wp2_with (go_at_call 31; refine (isTurn_c _ _).mono ?_; rintro e w1 ⟨m, rfl, rfl⟩)
  all_goals
    go_ret
    exact ⟨by simp [*], (by repeat (first | exact Gro.refl _ | apply Gro.drewN | apply Gro.drew | apply Gro.alloc | refine Gro.setCell ?_ (by dsimp only; omega) _ | refine Gro.trans ?_ (by assumption)))⟩

-- @has isBranch
set_option maxHeartbeats 800000 in
theorem isBranch_c (x0 x1 x2 x3 x4 x5 : Nat) (w : World) : Calls Try.prog 33 #[.agg #[.float .f32 x0, .float .f32 x1, .float .f32 x2, .float .f32 x3, .float .f32 x4, .float .f32 x5]] w fun e w' => e = .returned (.bool (braB (cl .f32 x0) (cl .f32 x1) (cl .f32 x5))) ∧ Gro w w' := by
  unfold braB fge fle
  have tg := tst_gt .f32
  have tl := tst_lt .f32
  have te := tst_eq .f32
  go_enter Try.func33, Try.ntmps33
  go_wp2
  all_goals
    go_ret
    exact ⟨by simp [*], (by repeat (first | exact Gro.refl _ | apply Gro.drewN | apply Gro.drew | apply Gro.alloc | refine Gro.setCell ?_ (by dsimp only; omega) _ | refine Gro.trans ?_ (by assumption)))⟩

-- @has implValidOrbit
set_option maxHeartbeats 1600000 in
theorem implValidOrbit_c (x0 x1 x2 x3 x4 x5 : Nat) (w : World) : Calls Try.prog 14 #[.agg #[.float .f32 x0, .float .f32 x1, .float .f32 x2, .float .f32 x3, .float .f32 x4, .float .f32 x5]] w fun e w' => e = .returned (.bool (orbI (cl .f32 x0) (cl .f32 x1) (cl .f32 x2) (cl .f32 x3) (cl .f32 x4) (cl .f32 x5))) ∧ Gro w w' := by
  have e0 : allFin (six x0 x1 x2 x3 x4 x5) 6 = (isFin .f32 (cl .f32 x0) && isFin .f32 (cl .f32 x1) && isFin .f32 (cl .f32 x2) && isFin .f32 (cl .f32 x3) && isFin .f32 (cl .f32 x4) && isFin .f32 (cl .f32 x5)) := rfl
  unfold orbI fge fle
  rw [← e0]
  clear e0
  have tg := tst_gt .f32
  have tl := tst_lt .f32
  have te := tst_eq .f32
  go_enter Try.func14, Try.ntmps14
  go_wp2_with fail
  refine (areFinite_c _ _ _ (six x0 x1 x2 x3 x4 x5) _ (six_new (by simp))).mono ?_
  rintro e w1 ⟨n, rfl, rfl⟩
  go_wp2_with (first | (go_at_call 31; refine (isTurn_c _ _).mono ?_; rintro e w1 ⟨m, rfl, rfl⟩) | (go_at_call 32; refine (isEllipse_c _ _ _ _ _ _ _).mono ?_; rintro e w1 ⟨rfl, hg⟩; have hcs := hg.cells; have hfs := hg.frozens; have hlt := hg.lts; have hz := hg.size; (try simp at hz); (try (have hzl := Nat.lt_of_succ_le hz))) | (go_at_call 33; refine (isBranch_c _ _ _ _ _ _ _).mono ?_; rintro e w1 ⟨rfl, hg⟩))
  all_goals
    go_ret
    exact ⟨by simp [*], (by repeat (first | exact Gro.refl _ | apply Gro.drewN | apply Gro.drew | apply Gro.alloc | refine Gro.setCell ?_ (by dsimp only; omega) _ | refine Gro.trans ?_ (by assumption)))⟩

theorem implValidOrbit_s (x0 x1 x2 x3 x4 x5 : Nat) (w : World) : Calls Try.prog 14 #[.agg #[.float .f32 x0, .float .f32 x1, .float .f32 x2, .float .f32 x3, .float .f32 x4, .float .f32 x5]] w fun e w' => e = .returned (.bool (orbS (cl .f32 x0) (cl .f32 x1) (cl .f32 x2) (cl .f32 x3) (cl .f32 x4) (cl .f32 x5))) ∧ Gro w w' := by
  rw [← orb_same]
  exact implValidOrbit_c x0 x1 x2 x3 x4 x5 w

-- @has l01Finite
theorem l01Finite_c (b : Nat) (w : World) : Calls Try.prog 46 #[.float .f32 b] w (RetV (.bool (isFin .f32 (cl .f32 b))) w) := by
  go_enter Try.func46, Try.ntmps46
  go_wp2_with (refine wpList_farith _ _ _ _ _ _ rfl rfl _ _ _ rfl rfl rfl ?_; intro b1 n1 h1)
  go_ret
  exact ⟨_, by rw [← sub_self_eq]; rfl, rfl⟩

-- @has l03Turn
theorem l03Turn_c (a : Nat) (w : World) : Calls Try.prog 47 #[.float .f32 a] w (RetV (.bool (turnB (cl .f32 a))) w) := by
  unfold turnB fge
  have tg := tst_gt .f32
  have tl := tst_lt .f32
  have te := tst_eq .f32
  go_enter Try.func47, Try.ntmps47
  go_wp2
  all_goals
    go_ret
    exact ⟨0, by simp [*], rfl⟩

-- @has l03Is
set_option maxHeartbeats 3200000 in
theorem l03Is_c (x0 x1 x2 x3 x4 x5 : Nat) (g : Nat) (w : World) (k0 : w.cell? ⟨g, 0, none⟩ = some (.float .f32 x0)) (k1 : w.cell? ⟨g, 1, none⟩ = some (.float .f32 x1)) (k2 : w.cell? ⟨g, 2, none⟩ = some (.float .f32 x2)) (k3 : w.cell? ⟨g, 3, none⟩ = some (.float .f32 x3)) (k4 : w.cell? ⟨g, 4, none⟩ = some (.float .f32 x4)) (k5 : w.cell? ⟨g, 5, none⟩ = some (.float .f32 x5)) :
    Calls Try.prog 29 #[.pointer (some ⟨g, 0, none⟩)] w (RetV (.bool (orbS (cl .f32 x0) (cl .f32 x1) (cl .f32 x2) (cl .f32 x3) (cl .f32 x4) (cl .f32 x5))) w) := by
  unfold orbS braB fge fle
  have tg := tst_gt .f32
  have tl := tst_lt .f32
  have te := tst_eq .f32
  cases q0 : (isFin .f32 (cl .f32 x0))
  · go_enter Try.func29, Try.ntmps29
    go_wp2_with (first | (go_at_call 47; refine (l03Turn_c _ _).mono ?_; rintro e w1 ⟨m, rfl, rfl⟩) | (go_at_call 46; refine (l01Finite_c _ _).mono ?_; rintro e w1 ⟨m, rfl, rfl⟩))
    all_goals
      go_ret
      exact ⟨_, by simp [*], rfl⟩
  cases q1 : (isFin .f32 (cl .f32 x1))
  · go_enter Try.func29, Try.ntmps29
    go_wp2_with (first | (go_at_call 47; refine (l03Turn_c _ _).mono ?_; rintro e w1 ⟨m, rfl, rfl⟩) | (go_at_call 46; refine (l01Finite_c _ _).mono ?_; rintro e w1 ⟨m, rfl, rfl⟩))
    all_goals
      go_ret
      exact ⟨_, by simp [*], rfl⟩
  cases q2 : (fgt .f32 (cl .f32 x2) (cl .f32 0) || feq .f32 (cl .f32 x2) (cl .f32 0))
  · go_enter Try.func29, Try.ntmps29
    go_wp2_with (first | (go_at_call 47; refine (l03Turn_c _ _).mono ?_; rintro e w1 ⟨m, rfl, rfl⟩) | (go_at_call 46; refine (l01Finite_c _ _).mono ?_; rintro e w1 ⟨m, rfl, rfl⟩))
    all_goals
      go_ret
      exact ⟨_, by simp [*], rfl⟩
  cases q3 : (flt .f32 (cl .f32 x2) (cl .f32 1056964608) || feq .f32 (cl .f32 x2) (cl .f32 1056964608))
  · go_enter Try.func29, Try.ntmps29
    go_wp2_with (first | (go_at_call 47; refine (l03Turn_c _ _).mono ?_; rintro e w1 ⟨m, rfl, rfl⟩) | (go_at_call 46; refine (l01Finite_c _ _).mono ?_; rintro e w1 ⟨m, rfl, rfl⟩))
    all_goals
      go_ret
      exact ⟨_, by simp [*], rfl⟩
  cases q4 : (turnB (cl .f32 x3))
  · go_enter Try.func29, Try.ntmps29
    go_wp2_with (first | (go_at_call 47; refine (l03Turn_c _ _).mono ?_; rintro e w1 ⟨m, rfl, rfl⟩) | (go_at_call 46; refine (l01Finite_c _ _).mono ?_; rintro e w1 ⟨m, rfl, rfl⟩))
    all_goals
      go_ret
      exact ⟨_, by simp [*], rfl⟩
  cases q5 : (turnB (cl .f32 x4))
  · go_enter Try.func29, Try.ntmps29
    go_wp2_with (first | (go_at_call 47; refine (l03Turn_c _ _).mono ?_; rintro e w1 ⟨m, rfl, rfl⟩) | (go_at_call 46; refine (l01Finite_c _ _).mono ?_; rintro e w1 ⟨m, rfl, rfl⟩))
    all_goals
      go_ret
      exact ⟨_, by simp [*], rfl⟩
  · go_enter Try.func29, Try.ntmps29
    go_wp2_with (first | (go_at_call 47; refine (l03Turn_c _ _).mono ?_; rintro e w1 ⟨m, rfl, rfl⟩) | (go_at_call 46; refine (l01Finite_c _ _).mono ?_; rintro e w1 ⟨m, rfl, rfl⟩))
    all_goals
      go_ret
      exact ⟨_, by simp [*], rfl⟩

-- @has specValidOrbit
set_option maxHeartbeats 1600000 in
theorem specValidOrbit_c (x0 x1 x2 x3 x4 x5 : Nat) (w : World) : Calls Try.prog 13 #[.agg #[.float .f32 x0, .float .f32 x1, .float .f32 x2, .float .f32 x3, .float .f32 x4, .float .f32 x5]] w fun e w' => e = .returned (.bool (orbS (cl .f32 x0) (cl .f32 x1) (cl .f32 x2) (cl .f32 x3) (cl .f32 x4) (cl .f32 x5))) ∧ Gro w w' := by
  go_enter Try.func13, Try.ntmps13
  go_wp2_with (go_at_call 29; refine (l03Is_c x0 x1 x2 x3 x4 x5 _ _ (by simp) (by simp) (by simp) (by simp) (by simp) (by simp)).mono ?_; rintro e w1 ⟨m, rfl, rfl⟩)
  go_ret
  exact ⟨rfl, (by repeat (first | exact Gro.refl _ | apply Gro.drewN | apply Gro.drew | apply Gro.alloc | refine Gro.setCell ?_ (by dsimp only; omega) _ | refine Gro.trans ?_ (by assumption)))⟩

-- @has FnExactValidOrbit
set_option maxHeartbeats 1600000 in
theorem walk_FnExactValidOrbit (x0 x1 x2 x3 x4 x5 : Nat) (_wx0 : x0 < 2 ^ 32) (_wx1 : x1 < 2 ^ 32) (_wx2 : x2 < 2 ^ 32) (_wx3 : x3 < 2 ^ 32) (_wx4 : x4 < 2 ^ 32) (_wx5 : x5 < 2 ^ 32) (w : World) :
    Calls Try.prog 4 #[.agg #[.float .f32 x0, .float .f32 x1, .float .f32 x2, .float .f32 x3, .float .f32 x4, .float .f32 x5]] w fun e w' => e = .returned (.bool true) ∧ Below w.heap.size w w' := by
  go_enter Try.func4, Try.ntmps4
  go_upto_region 1 with fail
  obtain ⟨w2, hw2, G0, c0, c1, c2, c3, c4, c5⟩ : ∃ w2, w2 = w.alloc (.cells #[.float .f32 x0, .float .f32 x1, .float .f32 x2, .float .f32 x3, .float .f32 x4, .float .f32 x5] 24) ∧ Gro w w2 ∧ w2.cell? ⟨w.heap.size, 0, none⟩ = some (.float .f32 x0) ∧ w2.cell? ⟨w.heap.size, 1, none⟩ = some (.float .f32 x1) ∧ w2.cell? ⟨w.heap.size, 2, none⟩ = some (.float .f32 x2) ∧ w2.cell? ⟨w.heap.size, 3, none⟩ = some (.float .f32 x3) ∧ w2.cell? ⟨w.heap.size, 4, none⟩ = some (.float .f32 x4) ∧ w2.cell? ⟨w.heap.size, 5, none⟩ = some (.float .f32 x5) :=
    ⟨_, rfl, (Gro.refl _).alloc _, by simp [go_sem], by simp [go_sem], by simp [go_sem], by simp [go_sem], by simp [go_sem], by simp [go_sem]⟩
  rw [← hw2]
  clear hw2
  have hlt0 : w.heap.size < w2.heap.size := lt_of_cell c0
  go_wp2_with (first | (go_at_call 11; refine (toOrbit_c _ _ _ _ _ _ _).mono ?_; rintro e w1 ⟨rfl, hg⟩; have hcs := hg.cells; have hfs := hg.frozens; have hlt := hg.lts; have hz := hg.size; (try simp at hz); (try (have hzl := Nat.lt_of_succ_le hz))) | (go_at_call 13; refine (specValidOrbit_c _ _ _ _ _ _ _).mono ?_; rintro e w1 ⟨rfl, hg⟩; have hcs := hg.cells; have hfs := hg.frozens; have hlt := hg.lts; have hz := hg.size; (try simp at hz); (try (have hzl := Nat.lt_of_succ_le hz))) | (go_at_call 14; refine (implValidOrbit_s _ _ _ _ _ _ _).mono ?_; rintro e w1 ⟨rfl, hg⟩; have hcs := hg.cells; have hfs := hg.frozens; have hlt := hg.lts; have hz := hg.size; (try simp at hz); (try (have hzl := Nat.lt_of_succ_le hz))))
  all_goals
    go_ret
    exact ⟨rfl, Gro.below (by repeat (first | exact Gro.refl _ | apply Gro.drewN | apply Gro.drew | apply Gro.alloc | refine Gro.setCell ?_ (by dsimp only; omega) _ | refine Gro.trans ?_ (by assumption)))⟩

end Go.Proofs.Ytepeohbcnfgliaa
