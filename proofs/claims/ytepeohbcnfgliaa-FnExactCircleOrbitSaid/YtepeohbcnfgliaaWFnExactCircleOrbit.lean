/- Contracts of Go functions: what each returns, as a class of words, whatever the world. -/
import Derived.Test.YtepeohbcnfgliaaOrb
import Derived.Test.YtepeohbcnfgliaaProg
import Derived.BigQuiet
import Derived.Deep.QuietTactic
import Derived.Deep.RegionHeld3
import Derived.Deep.DeepFit
import Derived.WalkSpells
import Derived.Lib.Hide
import Derived.WalkSmall
import Derived.Deep.DeepCutAuto
namespace Go.Proofs.Ytepeohbcnfgliaa
open Go.RowKit Go.Fl

-- @has sameFloat
set_option maxHeartbeats 400000 in
theorem sameFloat_true (a b : Nat) (h : cl .f64 a = cl .f64 b) (w : World) :
    Calls Try.prog 20 #[.float .f64 a, .float .f64 b] w (RetV (.bool true) w) := by
  generalize hb : cl .f64 b = c at h
  rcases c with _ | c
  · go_enter Try.func20, Try.ntmps20
    go_wp2
    go_ret
    exact ⟨0, rfl, rfl⟩
  · have hs := ford_self h
    rcases h0 : ford .f64 (some c) (cl .f64 0) with _ | (_ | _ | _)
    all_goals
      go_enter Try.func20, Try.ntmps20
      go_wp2_with (refine wpList_farith _ _ _ _ _ _ rfl rfl _ _ _ rfl rfl rfl ?_; intro b1 n1 h1)
      go_ret
      first | exact ⟨0, rfl, rfl⟩ | exact ⟨_, rfl, rfl⟩

-- @has eqOrbit
set_option maxHeartbeats 800000 in
theorem eqOrbit_true (x0 x1 x2 x3 x4 x5 y0 y1 y2 y3 y4 y5 : Nat) (h0 : cl .f32 x0 = cl .f32 y0) (h1 : cl .f32 x1 = cl .f32 y1) (h2 : cl .f32 x2 = cl .f32 y2) (h3 : cl .f32 x3 = cl .f32 y3) (h4 : cl .f32 x4 = cl .f32 y4) (h5 : cl .f32 x5 = cl .f32 y5) (w : World) :
    Calls Try.prog 17 #[.agg #[.float .f32 x0, .float .f32 x1, .float .f32 x2, .float .f32 x3, .float .f32 x4, .float .f32 x5], .agg #[.float .f32 y0, .float .f32 y1, .float .f32 y2, .float .f32 y3, .float .f32 y4, .float .f32 y5]] w fun e w' => e = .returned (.bool true) ∧ Gro w w' := by
  go_enter Try.func17, Try.ntmps17
  go_wp2_with (first | (refine wpList_widen _ _ _ _ rfl _ rfl Try.underlying37 (by rw [Try.underlying22]; rfl) rfl ?_; intro b1 n1 h1) | (go_at_call 20; refine (sameFloat_true _ _ (by simp only [*]) _).mono ?_; rintro e w1 ⟨m1, rfl, rfl⟩))
  go_ret
  exact ⟨rfl, (by repeat (first | with_reducible exact Gro.refl _ | with_reducible apply Gro.drewN | with_reducible apply Gro.drew | with_reducible apply Gro.alloc | with_reducible refine Gro.setCell ?_ (by dsimp only; omega) _ | refine Gro.trans ?_ (by assumption)))⟩

-- @has IsNaN
theorem isNaN_c (b : Nat) (w : World) : Calls Try.prog 59 #[.float .f64 b] w (RetV (.bool (cl .f64 b).isNone) w) := by
  rcases h : cl .f64 b with _ | c
  · go_enter Try.func59, Try.ntmps59
    go_wp2
    go_ret
    exact ⟨0, rfl, rfl⟩
  · have hs := ford_self h
    go_enter Try.func59, Try.ntmps59
    go_wp2
    go_ret
    exact ⟨0, rfl, rfl⟩

-- @has Float64bits
theorem f64bits_run (x : Nat) (w : World) : (callFunc 58 #[.float .f64 x]).run Try.prog w = .ok (.value (.int .u64 x)) w := by
  rw [run_callFunc_extern Try.func58 (e := Extern.MathFloatBits.float64bits) (by kernel_rfl) (by kernel_rfl) (by kernel_rfl) (by kernel_rfl)]; rfl

-- @has Float64frombits
theorem f64from_run (n : Int) (w : World) : (callFunc 62 #[.int .u64 n]).run Try.prog w = .ok (.value (.float .f64 n.toNat)) w := by
  rw [run_callFunc_extern Try.func62 (e := Extern.MathFloatBits.float64frombits) (by kernel_rfl) (by kernel_rfl) (by kernel_rfl) (by kernel_rfl)]; rfl

-- @has Abs
theorem abs_c (b : Nat) (w : World) : Calls Try.prog 61 #[.float .f64 b] w (RetF .f64 (absC (cl .f64 b)) w) := by
  have hx := f64bits_run
  have hy := f64from_run
  go_enter Try.func61, Try.ntmps61
  go_wp2
  go_ret
  exact ⟨_, 0, rfl, by rw [bits_andNot63]; exact cl_abs b, rfl⟩

-- @has IsInf
theorem isInf_c (b c : Nat) (h : cl .f64 b = some c) (w : World) : Calls Try.prog 60 #[.float .f64 b, .int .i64 0] w (RetV (.bool (!isFin .f64 (some c))) w) := by
  have h2 := isInf_eq b c h
  rw [maxFin_eq] at h2
  go_enter Try.func60, Try.ntmps60
  go_wp2_with (go_at_call 61; refine (abs_c _ _).mono ?_; rintro e w' ⟨r, n, rfl, hr, rfl⟩)
  go_ret
  exact ⟨_, rfl, rfl⟩

-- @has finite
theorem finite_c (b : Nat) (w : World) : Calls Try.prog 57 #[.float .f64 b] w (RetV (.bool (isFin .f64 (cl .f64 b))) w) := by
  rcases h : cl .f64 b with _ | c
  · go_enter Try.func57, Try.ntmps57
    go_wp2_with (go_at_call 59; refine (isNaN_c _ _).mono ?_; rintro e w' ⟨n, rfl, rfl⟩)
    go_ret
    exact ⟨_, rfl, rfl⟩
  · cases hf : isFin .f64 (some c)
    all_goals
      go_enter Try.func57, Try.ntmps57
      go_wp2_with (first | (go_at_call 59; refine (isNaN_c _ _).mono ?_; rintro e w' ⟨n, rfl, rfl⟩) | (go_at_call 60; refine (isInf_c _ c h _).mono ?_; rintro e w' ⟨n, rfl, rfl⟩))
      go_ret
      exact ⟨_, rfl, rfl⟩

-- @has implIsFinite
theorem implIsFinite_c (b : Nat) (w : World) : Calls Try.prog 50 #[.float .f32 b] w (RetV (.bool (isFin .f32 (cl .f32 b))) w) := by
  have hw := isFin_widen b
  go_enter Try.func50, Try.ntmps50
  go_wp2_with (first | (refine wpList_widen _ _ _ _ rfl _ rfl Try.underlying37 (by rw [Try.underlying22]; rfl) rfl ?_; intro b1 n1 h1) | (go_at_call 57; refine (finite_c _ _).mono ?_; rintro e w' ⟨n, rfl, rfl⟩))
  go_ret
  exact ⟨_, rfl, rfl⟩

-- @has areFinite1
theorem areFinite1_c (a : Nat) (w : World) : Calls Try.prog 49 #[.float .f32 a] w (RetV (.bool (!isFin .f32 (cl .f32 a))) w) := by
  go_enter Try.func49, Try.ntmps49
  go_wp2_with (go_at_call 50; refine (implIsFinite_c _ _).mono ?_; rintro e w1 ⟨m, rfl, rfl⟩)
  go_ret
  exact ⟨_, rfl, rfl⟩

-- @has IndexFunc
set_option maxHeartbeats 800000 in
theorem indexFunc_c (a : Option Addr) (len ca : Nat) (Z : Nat → Nat) (w : World) (h1 : SlF w a len Z) :
    Calls Try.prog 56 #[.slice a len ca, .func (.func 49) #[] #[]] w fun e w' => ∃ (r : Int) (n : Nat), e = .returned (.int .i64 r) ∧ (0 ≤ r ↔ allFin Z len = false) ∧ w' = w.drewN n := by
  have hm := h1.1
  unfold maxLen at hm
  go_enter Try.func56, Try.ntmps56
  go_wp2
  go_loopw [8] (fun i wr => ∃ k n : Nat, k ≤ len ∧ i = .int .i64 k ∧ allFin Z k = true ∧ wr = w.drewN n) (fun i _ => len - (intOf i).toNat)
  case atStart => exact ⟨0, 0, Nat.zero_le _, rfl, rfl, rfl⟩
  case round =>
    obtain ⟨k, n, hk, rfl, hq, rfl⟩ := hrel
    have hq' := Lib.hid hq
    clear hq
    by_cases hlt : k < len
    · obtain ⟨b1, o1, rfl, hc1⟩ := h1.2 (by omega)
      have c0 : w.cell? ⟨b1, o1 + k, none⟩ = some (.float .f32 (Z k)) := hc1 k hlt
      clear hc1 h1
      cases hs : isFin .f32 (cl .f32 (Z k))
      · have hs' := Lib.hid hs
        go_wp2_with (go_at_call 49; refine (areFinite1_c _ _).mono ?_; rintro e w1 ⟨m, rfl, rfl⟩)
        go_ret
        exact ⟨_, _, rfl, by simp [allFin_false hs'.out _ hlt], rfl⟩
      · have hs' := Lib.hid hs
        go_wp2_with (go_at_call 49; refine (areFinite1_c _ _).mono ?_; rintro e w1 ⟨m, rfl, rfl⟩)
        go_roundw
        case rel => exact ⟨k + 1, _, by omega, by go_num, by rw [allFin, hq'.out, hs'.out]; rfl, rfl⟩
        case measure => simp [intOf]; omega
    · have : k = len := by omega
      subst this
      go_wp2
      go_ret
      exact ⟨_, n, rfl, by simp [hq'.out], rfl⟩

-- @has areFinite
theorem containsFunc_c (a : Option Addr) (len ca : Nat) (Z : Nat → Nat) (w : World) (h1 : SlF w a len Z) :
    Calls Try.prog 48 #[.slice a len ca, .func (.func 49) #[] #[]] w (RetV (.bool (!allFin Z len)) w) := by
  go_enter Try.func48, Try.ntmps48
  go_wp2_with fail
  refine (indexFunc_c _ _ _ _ _ h1).mono ?_
  rintro e w1 ⟨r, n, rfl, hr, rfl⟩
  have hr' := Lib.hid hr
  clear hr
  go_wp2_with fail
  go_ret
  refine ⟨_, ?_, rfl⟩
  cases hf : allFin Z len <;> simp [hf, hr'.out]
theorem areFinite_c (a : Option Addr) (len ca : Nat) (Z : Nat → Nat) (w : World) (h1 : SlF w a len Z) :
    Calls Try.prog 30 #[.slice a len ca] w (RetV (.bool (allFin Z len)) w) := by
  go_enter Try.func30, Try.ntmps30
  go_wp2_with fail
  refine (containsFunc_c _ _ _ _ _ h1).mono ?_
  rintro e w1 ⟨n, rfl, rfl⟩
  go_wp2_with fail
  go_ret
  exact ⟨_, by simp, rfl⟩

-- @has isTurn
theorem isTurn_c (a : Nat) (w : World) : Calls Try.prog 31 #[.float .f32 a] w (RetV (.bool (turnB (cl .f32 a))) w) := by
  unfold turnB fge
  have tg := tst_gt .f32
  have tl := tst_lt .f32
  have te := tst_eq .f32
  go_enter Try.func31, Try.ntmps31
  go_wp2
  all_goals
    go_ret
    exact ⟨0, by simp [*], rfl⟩

-- @has isEllipse
set_option maxHeartbeats 800000 in
theorem isEllipse_c (x0 x1 x2 x3 x4 x5 : Nat) (w : World) : Calls Try.prog 32 #[.agg #[.float .f32 x0, .float .f32 x1, .float .f32 x2, .float .f32 x3, .float .f32 x4, .float .f32 x5]] w fun e w' => e = .returned (.bool (ellB (cl .f32 x0) (cl .f32 x1) (cl .f32 x5))) ∧ Gro w w' := by
  unfold ellB fge
  have tg := tst_gt .f32
  have tl := tst_lt .f32
  have te := tst_eq .f32
  go_enter Try.func32, Try.ntmps32
  go_wp2_with (go_at_call 31; refine (isTurn_c _ _).mono ?_; rintro e w1 ⟨m, rfl, rfl⟩)
  all_goals
    go_ret
    exact ⟨by simp [*], (by repeat (first | with_reducible exact Gro.refl _ | with_reducible apply Gro.drewN | with_reducible apply Gro.drew | with_reducible apply Gro.alloc | with_reducible refine Gro.setCell ?_ (by dsimp only; omega) _ | refine Gro.trans ?_ (by assumption)))⟩

-- @has isBranch
set_option maxHeartbeats 800000 in
theorem isBranch_c (x0 x1 x2 x3 x4 x5 : Nat) (w : World) : Calls Try.prog 33 #[.agg #[.float .f32 x0, .float .f32 x1, .float .f32 x2, .float .f32 x3, .float .f32 x4, .float .f32 x5]] w fun e w' => e = .returned (.bool (braB (cl .f32 x0) (cl .f32 x1) (cl .f32 x5))) ∧ Gro w w' := by
  unfold braB fge fle
  have tg := tst_gt .f32
  have tl := tst_lt .f32
  have te := tst_eq .f32
  go_enter Try.func33, Try.ntmps33
  go_wp2
  all_goals
    go_ret
    exact ⟨by simp [*], (by repeat (first | with_reducible exact Gro.refl _ | with_reducible apply Gro.drewN | with_reducible apply Gro.drew | with_reducible apply Gro.alloc | with_reducible refine Gro.setCell ?_ (by dsimp only; omega) _ | refine Gro.trans ?_ (by assumption)))⟩

-- @has implValidOrbit
set_option maxHeartbeats 1600000 in
theorem implValidOrbit_c (x0 x1 x2 x3 x4 x5 : Nat) (w : World) : Calls Try.prog 14 #[.agg #[.float .f32 x0, .float .f32 x1, .float .f32 x2, .float .f32 x3, .float .f32 x4, .float .f32 x5]] w fun e w' => e = .returned (.bool (orbI (cl .f32 x0) (cl .f32 x1) (cl .f32 x2) (cl .f32 x3) (cl .f32 x4) (cl .f32 x5))) ∧ Gro w w' := by
  have e0 : allFin (six x0 x1 x2 x3 x4 x5) 6 = (isFin .f32 (cl .f32 x0) && isFin .f32 (cl .f32 x1) && isFin .f32 (cl .f32 x2) && isFin .f32 (cl .f32 x3) && isFin .f32 (cl .f32 x4) && isFin .f32 (cl .f32 x5)) := rfl
  unfold orbI fge fle
  rw [← e0]
  clear e0
  have tg := tst_gt .f32
  have tl := tst_lt .f32
  have te := tst_eq .f32
  go_enter Try.func14, Try.ntmps14
  go_wp2_with fail
  refine (areFinite_c _ _ _ (six x0 x1 x2 x3 x4 x5) _ (six_new (by simp))).mono ?_
  rintro e w1 ⟨n, rfl, rfl⟩
  go_wp2_with (first | (go_at_call 31; refine (isTurn_c _ _).mono ?_; rintro e w1 ⟨m, rfl, rfl⟩) | (go_at_call 32; refine (isEllipse_c _ _ _ _ _ _ _).mono ?_; rintro e w1 ⟨rfl, hg⟩; have hcs := hg.cells; have hfs := hg.frozens; have hlt := hg.lts; have hz := hg.size; (try simp at hz); (try (have hzl := Nat.lt_of_succ_le hz))) | (go_at_call 33; refine (isBranch_c _ _ _ _ _ _ _).mono ?_; rintro e w1 ⟨rfl, hg⟩))
  all_goals
    go_ret
    exact ⟨by simp [*], (by repeat (first | with_reducible exact Gro.refl _ | with_reducible apply Gro.drewN | with_reducible apply Gro.drew | with_reducible apply Gro.alloc | with_reducible refine Gro.setCell ?_ (by dsimp only; omega) _ | refine Gro.trans ?_ (by assumption)))⟩

theorem implValidOrbit_s (x0 x1 x2 x3 x4 x5 : Nat) (w : World) : Calls Try.prog 14 #[.agg #[.float .f32 x0, .float .f32 x1, .float .f32 x2, .float .f32 x3, .float .f32 x4, .float .f32 x5]] w fun e w' => e = .returned (.bool (orbS (cl .f32 x0) (cl .f32 x1) (cl .f32 x2) (cl .f32 x3) (cl .f32 x4) (cl .f32 x5))) ∧ Gro w w' := by
  rw [← orb_same]
  exact implValidOrbit_c x0 x1 x2 x3 x4 x5 w

-- @has l01Finite
theorem l01Finite_c (b : Nat) (w : World) : Calls Try.prog 46 #[.float .f32 b] w (RetV (.bool (isFin .f32 (cl .f32 b))) w) := by
  go_enter Try.func46, Try.ntmps46
  go_wp2_with (refine wpList_farith _ _ _ _ _ _ rfl rfl _ _ _ rfl rfl rfl ?_; intro b1 n1 h1)
  go_ret
  exact ⟨_, by rw [← sub_self_eq]; rfl, rfl⟩

-- @has specCircleOrbit
def cirB (c : Option Nat) : Bool := isFin .f32 c && fgt .f32 c (cl .f32 0)
theorem l02Above_c (a : Nat) (w : World) : Calls Try.prog 34 #[.float .f32 a] w (RetV (.bool (cirB (cl .f32 a))) w) := by
  have tg := tst_gt .f32
  unfold cirB
  go_enter Try.func34, Try.ntmps34
  go_wp2_with (go_at_call 46; refine (l01Finite_c _ _).mono ?_; rintro e w1 ⟨m, rfl, rfl⟩)
  all_goals
    go_ret
    exact ⟨_, by simp [*], rfl⟩
/-- The circle that a call returns. -/
def RetO (a : Nat) (t : Bool) (w : World) (e : Ending) (w' : World) : Prop :=
  e = .returned (.tuple #[.agg #[.float .f32 (if t then a else 0), .float .f32 0, .float .f32 0, .float .f32 0, .float .f32 0, .float .f32 0], .bool t]) ∧ Gro w w'
theorem specCircleOrbit_c (a : Nat) (w : World) : Calls Try.prog 15 #[.float .f32 a] w (RetO a (cirB (cl .f32 a)) w) := by
  cases q : cirB (cl .f32 a)
  all_goals
    go_enter Try.func15, Try.ntmps15
    go_wp2_with (go_at_call 34; refine (l02Above_c _ _).mono ?_; rintro e w1 ⟨m, rfl, rfl⟩)
  · exact bodyPost_ret (v := .tuple #[.agg #[.float .f32 0, .float .f32 0, .float .f32 0, .float .f32 0, .float .f32 0, .float .f32 0], .bool false]) (by simp [results, Try.results15, go_sem]) rfl ⟨rfl, (by repeat (first | with_reducible exact Gro.refl _ | with_reducible apply Gro.drewN | with_reducible apply Gro.drew | with_reducible apply Gro.alloc | with_reducible refine Gro.setCell ?_ (by dsimp only; omega) _ | refine Gro.trans ?_ (by assumption)))⟩
  · exact bodyPost_ret (v := .tuple #[.agg #[.float .f32 a, .float .f32 0, .float .f32 0, .float .f32 0, .float .f32 0, .float .f32 0], .bool true]) (by simp [results, Try.results15, go_sem]) rfl ⟨rfl, (by repeat (first | with_reducible exact Gro.refl _ | with_reducible apply Gro.drewN | with_reducible apply Gro.drew | with_reducible apply Gro.alloc | with_reducible refine Gro.setCell ?_ (by dsimp only; omega) _ | refine Gro.trans ?_ (by assumption)))⟩

-- @has implCircleOrbit
theorem cir_orb (x : Nat) : orbS (cl .f32 x) (cl .f32 0) (cl .f32 0) (cl .f32 0) (cl .f32 0) (cl .f32 0) = cirB (cl .f32 x) := by
  have e1 : isFin .f32 (cl .f32 0) = true := by decide +kernel
  have e2 : fge .f32 (cl .f32 0) (cl .f32 0) = true := by decide +kernel
  have e3 : fle .f32 (cl .f32 0) (cl .f32 1056964608) = true := by decide +kernel
  have e4 : turnB (cl .f32 0) = true := by decide +kernel
  have e5 : flt .f32 (cl .f32 0) (cl .f32 1065353216) = true := by decide +kernel
  have e6 : fgt .f32 (cl .f32 0) (cl .f32 1065353216) = false := by decide +kernel
  unfold orbS cirB braB
  simp [e1, e2, e3, e4, e5, e6]
set_option maxHeartbeats 1600000 in
theorem valid_c (x0 x1 x2 x3 x4 x5 : Nat) (w : World) (t : Bool) (ht : orbS (cl .f32 x0) (cl .f32 x1) (cl .f32 x2) (cl .f32 x3) (cl .f32 x4) (cl .f32 x5) = t) : Calls Try.prog 35 #[.agg #[.float .f32 x0, .float .f32 x1, .float .f32 x2, .float .f32 x3, .float .f32 x4, .float .f32 x5]] w fun e w' => e = .returned (.tuple #[if t then .agg #[.float .f32 x0, .float .f32 x1, .float .f32 x2, .float .f32 x3, .float .f32 x4, .float .f32 x5] else .agg #[.float .f32 0, .float .f32 0, .float .f32 0, .float .f32 0, .float .f32 0, .float .f32 0], .bool t]) ∧ Gro w w' := by
  cases t
  all_goals
    go_enter Try.func35, Try.ntmps35
    go_wp2_with (go_at_call 14; refine (implValidOrbit_s _ _ _ _ _ _ _).mono ?_; rintro e w1 ⟨rfl, hg⟩; have hcs := hg.cells; have hfs := hg.frozens; have hlt := hg.lts; have hz := hg.size; (try simp at hz); (try (have hzl := Nat.lt_of_succ_le hz)))
  · exact bodyPost_ret (v := .tuple #[.agg #[.float .f32 0, .float .f32 0, .float .f32 0, .float .f32 0, .float .f32 0, .float .f32 0], .bool false]) (by simp [results, Try.results35, go_sem, hcs]) rfl ⟨rfl, (by repeat (first | with_reducible exact Gro.refl _ | with_reducible apply Gro.drewN | with_reducible apply Gro.drew | with_reducible apply Gro.alloc | with_reducible refine Gro.setCell ?_ (by first | (dsimp only; omega) | (dsimp only; simp; omega)) _ | refine Gro.trans ?_ (by assumption)))⟩
  · exact bodyPost_ret (v := .tuple #[.agg #[.float .f32 x0, .float .f32 x1, .float .f32 x2, .float .f32 x3, .float .f32 x4, .float .f32 x5], .bool true]) (by simp [results, Try.results35, go_sem, hcs]) rfl ⟨rfl, (by repeat (first | with_reducible exact Gro.refl _ | with_reducible apply Gro.drewN | with_reducible apply Gro.drew | with_reducible apply Gro.alloc | with_reducible refine Gro.setCell ?_ (by first | (dsimp only; omega) | (dsimp only; simp; omega)) _ | refine Gro.trans ?_ (by assumption)))⟩
set_option maxHeartbeats 1600000 in
theorem implCircleOrbit_c (a : Nat) (w : World) : Calls Try.prog 16 #[.float .f32 a] w (RetO a (cirB (cl .f32 a)) w) := by
  have hs := cir_orb a
  cases q : cirB (cl .f32 a)
  all_goals
    rw [q] at hs
    go_enter Try.func16, Try.ntmps16
    go_wp2_with (go_at_call 35; refine (valid_c _ _ _ _ _ _ _ _ hs).mono ?_; rintro e w1 ⟨rfl, hg⟩; have hcs := hg.cells; have hfs := hg.frozens; have hlt := hg.lts; have hz := hg.size; (try simp at hz); (try (have hzl := Nat.lt_of_succ_le hz)))
  · exact bodyPost_ret (v := .tuple #[.agg #[.float .f32 0, .float .f32 0, .float .f32 0, .float .f32 0, .float .f32 0, .float .f32 0], .bool false]) (by simp [results, Try.results16, go_sem, hcs]) rfl ⟨rfl, (by repeat (first | with_reducible exact Gro.refl _ | with_reducible apply Gro.drewN | with_reducible apply Gro.drew | with_reducible apply Gro.alloc | with_reducible refine Gro.setCell ?_ (by first | (dsimp only; omega) | (dsimp only; simp; omega)) _ | refine Gro.trans ?_ (by assumption)))⟩
  · exact bodyPost_ret (v := .tuple #[.agg #[.float .f32 a, .float .f32 0, .float .f32 0, .float .f32 0, .float .f32 0, .float .f32 0], .bool true]) (by simp [results, Try.results16, go_sem, hcs]) rfl ⟨rfl, (by repeat (first | with_reducible exact Gro.refl _ | with_reducible apply Gro.drewN | with_reducible apply Gro.drew | with_reducible apply Gro.alloc | with_reducible refine Gro.setCell ?_ (by first | (dsimp only; omega) | (dsimp only; simp; omega)) _ | refine Gro.trans ?_ (by assumption)))⟩

theorem specCircleOrbit_q (a : Nat) (w : World) (t : Bool) (h : cirB (cl .f32 a) = t) : Calls Try.prog 15 #[.float .f32 a] w (RetO a t w) := by subst h; exact specCircleOrbit_c a w
theorem implCircleOrbit_q (a : Nat) (w : World) (t : Bool) (h : cirB (cl .f32 a) = t) : Calls Try.prog 16 #[.float .f32 a] w (RetO a t w) := by subst h; exact implCircleOrbit_c a w

-- @has FnExactCircleOrbit
set_option maxHeartbeats 1600000 in
theorem walk_FnExactCircleOrbit (a : Nat) (_ha : a < 2 ^ 32) (w : World) :
    Calls Try.prog 5 #[.float .f32 a] w fun e w' => e = .returned (.bool true) ∧ Below w.heap.size w w' := by
  cases q : cirB (cl .f32 a)
  all_goals
    go_enter Try.func5, Try.ntmps5
    go_wp2_with (first | (go_at_call 15; refine (specCircleOrbit_q _ _ _ q).mono ?_; rintro e w1 ⟨rfl, hg⟩; have hcs := hg.cells; have hfs := hg.frozens; have hlt := hg.lts; have hz := hg.size; (try simp at hz); (try (have hzl := Nat.lt_of_succ_le hz))) | (go_at_call 16; refine (implCircleOrbit_q _ _ _ q).mono ?_; rintro e w1 ⟨rfl, hg⟩; have hcs := hg.cells; have hfs := hg.frozens; have hlt := hg.lts; have hz := hg.size; (try simp at hz); (try (have hzl := Nat.lt_of_succ_le hz))) | (go_at_call 17; refine (eqOrbit_true _ _ _ _ _ _ _ _ _ _ _ _ rfl rfl rfl rfl rfl rfl _).mono ?_; rintro e w1 ⟨rfl, hg⟩))
    go_ret
    exact ⟨rfl, Gro.below (by repeat (first | with_reducible exact Gro.refl _ | with_reducible apply Gro.drewN | with_reducible apply Gro.drew | with_reducible apply Gro.alloc | with_reducible refine Gro.setCell ?_ (by first | (dsimp only; omega) | (dsimp only; simp; omega)) _ | refine Gro.trans ?_ (by assumption)))⟩

end Go.Proofs.Ytepeohbcnfgliaa
