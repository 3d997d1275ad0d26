/- Contracts of Go functions: what each returns, as a class of words, whatever the world. -/
import Derived.Test.YtepeohbcnfgliaaOrb
import Derived.Test.YtepeohbcnfgliaaProg
import Derived.BigQuiet
import Derived.Deep.QuietTactic
import Derived.Deep.RegionHeld3
import Derived.Deep.DeepFit
import Derived.WalkSpells
import Derived.Lib.Hide
import Derived.WalkSmall
import Derived.Deep.DeepCutAuto
namespace Go.Proofs.Ytepeohbcnfgliaa
open Go.RowKit Go.Fl

-- @has toOrbit
set_option maxHeartbeats 800000 in
theorem toOrbit_c (x0 x1 x2 x3 x4 x5 : Nat) (w : World) : Calls Try.prog 11 #[.agg #[.float .f32 x0, .float .f32 x1, .float .f32 x2, .float .f32 x3, .float .f32 x4, .float .f32 x5]] w fun e w' => e = .returned (.agg #[.float .f32 x0, .float .f32 x1, .float .f32 x2, .float .f32 x3, .float .f32 x4, .float .f32 x5]) ∧ Gro w w' := by
  go_enter Try.func11, Try.ntmps11
  go_wp2
  exact bodyPost_ret (v := .agg #[.float .f32 x0, .float .f32 x1, .float .f32 x2, .float .f32 x3, .float .f32 x4, .float .f32 x5]) (by simp [results, Try.results11, go_sem]) rfl ⟨rfl, (((Gro.refl _).alloc _).alloc _).alloc _⟩

-- @has Float64bits
theorem f64bits_run (x : Nat) (w : World) : (callFunc 58 #[.float .f64 x]).run Try.prog w = .ok (.value (.int .u64 x)) w := by
  rw [run_callFunc_extern Try.func58 (e := Extern.MathFloatBits.float64bits) (by kernel_rfl) (by kernel_rfl) (by kernel_rfl) (by kernel_rfl)]; rfl

-- @has Signbit
theorem signbit_c (b : Nat) (w : World) : Calls Try.prog 55 #[.float .f64 b] w (RetV (.bool (sgn FloatKind.f64.format b)) w) := by
  have hx := f64bits_run
  go_enter Try.func55, Try.ntmps55
  go_wp2
  go_ret
  exact ⟨0, by rw [← signbit_eq]; rfl, rfl⟩

-- @has implSameNumber
theorem implSameNumber_c (a b : Nat) (ha : WfC .f32 (cl .f32 a)) (hb : WfC .f32 (cl .f32 b)) (w : World) : Calls Try.prog 45 #[.float .f32 a, .float .f32 b] w (RetV (.bool (decide (cl .f32 a = cl .f32 b))) w) := by
  rcases h1 : cl .f32 a with _ | c
  · rcases h2 : cl .f32 b with _ | d
    · go_enter Try.func45, Try.ntmps45
      go_wp2
      go_ret
      exact ⟨0, rfl, rfl⟩
    · have s2 := ford_self h2
      go_enter Try.func45, Try.ntmps45
      go_wp2
      go_ret
      exact ⟨0, rfl, rfl⟩
  · have s1 := ford_self h1
    rcases h2 : cl .f32 b with _ | d
    · go_enter Try.func45, Try.ntmps45
      go_wp2
      go_ret
      exact ⟨0, rfl, rfl⟩
    · have s2 := ford_self h2
      obtain ⟨x, x1, x2, x3, x4, x5⟩ := widen_cl h1
      obtain ⟨y, y1, y2, y3, y4, y5⟩ := widen_cl h2
      have hsame := same_word (cl_idem h1) (cl_idem h2) (ha _ h1) (hb _ h2)
      have H := Lib.hid hsame
      have X4 := Lib.hid x4
      have Y4 := Lib.hid y4
      clear hsame x2 x3 x4 x5 y2 y3 y4 y5 ha hb
      rcases ho : ford .f32 (some c) (some d) with _ | (_ | _ | _)
      all_goals
        go_enter Try.func45, Try.ntmps45
        go_wp2_with (first | (refine wpList_widen _ _ _ _ rfl _ rfl Try.underlying37 (by rw [Try.underlying22]; rfl) rfl ?_; intro b1 n1 hb1) | (go_at_call 55; refine (signbit_c _ _).mono ?_; rintro e w' ⟨n, rfl, rfl⟩))
        first
          | (have e1 := ‹cl .f64 _ = widen (cl .f32 a)›
             have e2 := ‹cl .f64 _ = widen (cl .f32 b)›
             rw [h1, x1] at e1
             rw [h2, y1] at e2
             obtain ⟨rfl, -⟩ := cl_some e1
             obtain ⟨rfl, -⟩ := cl_some e2
             go_ret
             exact ⟨_, by rw [← H.out, ho, ← X4.out, ← Y4.out]; rfl, rfl⟩)
          | (go_ret
             exact ⟨0, by rw [← H.out, ho]; rfl, rfl⟩)

-- @has EqualFunc
set_option maxHeartbeats 800000 in
theorem equalFunc_c (a b : Option Addr) (len ca cb : Nat) (Y Z : Nat → Nat) (w : World) (h1 : SlF w a len Y) (h2 : SlF w b len Z) (wy : ∀ j, Y j < 2 ^ 32) (wz : ∀ j, Z j < 2 ^ 32) :
    Calls Try.prog 44 #[.slice a len ca, .slice b len cb, .func (.func 45) #[] #[]] w (RetV (.bool (allEq Y Z len)) w) := by
  have hm := h1.1
  unfold maxLen at hm
  go_enter Try.func44, Try.ntmps44
  go_wp2
  go_loopw [17] (fun i wr => ∃ k n : Nat, k ≤ len ∧ i = .int .i64 k ∧ allEq Y Z k = true ∧ wr = w.drewN n) (fun i _ => len - (intOf i).toNat)
  case atStart => exact ⟨0, 0, Nat.zero_le _, rfl, rfl, rfl⟩
  case round =>
    obtain ⟨k, n, hk, rfl, hq, rfl⟩ := hrel
    have hq' := Lib.hid hq
    clear hq
    by_cases hlt : k < len
    · obtain ⟨b1, o1, rfl, hc1⟩ := h1.2 (by omega)
      obtain ⟨b2, o2, rfl, hc2⟩ := h2.2 (by omega)
      have c0 : w.cell? ⟨b1, o1 + k, none⟩ = some (.float .f32 (Y k)) := hc1 k hlt
      have c1 : w.cell? ⟨b2, o2 + k, none⟩ = some (.float .f32 (Z k)) := hc2 k hlt
      have wyk : WfC .f32 (cl .f32 (Y k)) := wf_cl (wy k)
      have wzk : WfC .f32 (cl .f32 (Z k)) := wf_cl (wz k)
      clear hc1 hc2 h1 h2 wy wz
      cases hs : decide (cl .f32 (Y k) = cl .f32 (Z k))
      · have hs' := Lib.hid hs
        go_wp2_with (go_at_call 45; refine (implSameNumber_c _ _ wyk wzk _).mono ?_; rintro e w1 ⟨m, rfl, rfl⟩)
        go_ret
        exact ⟨_, by rw [allEq_false hs'.out _ hlt]; rfl, rfl⟩
      · have hs' := Lib.hid hs
        go_wp2_with (go_at_call 45; refine (implSameNumber_c _ _ wyk wzk _).mono ?_; rintro e w1 ⟨m, rfl, rfl⟩)
        go_roundw
        case rel => exact ⟨k + 1, _, by omega, by go_num, by rw [allEq, hq'.out, hs'.out]; rfl, rfl⟩
        case measure => simp [intOf]; omega
    · have : k = len := by omega
      subst this
      go_wp2
      go_ret
      exact ⟨n, by rw [hq'.out]; rfl, rfl⟩

-- @has sameNumbers
theorem sameNumbers_c (a b : Option Addr) (len ca cb : Nat) (Y Z : Nat → Nat) (w : World) (h1 : SlF w a len Y) (h2 : SlF w b len Z) (wy : ∀ j, Y j < 2 ^ 32) (wz : ∀ j, Z j < 2 ^ 32) :
    Calls Try.prog 28 #[.slice a len ca, .slice b len cb] w (RetV (.bool (allEq Y Z len)) w) := by
  go_enter Try.func28, Try.ntmps28
  go_wp2_with fail
  refine (equalFunc_c _ _ _ _ _ _ _ _ h1 h2 wy wz).mono ?_
  rintro e w1 ⟨m, rfl, rfl⟩
  go_wp2_with fail
  go_ret
  exact ⟨_, rfl, rfl⟩

-- @has implSameOrbit
set_option maxHeartbeats 1600000 in
theorem implSameOrbit_c (x0 x1 x2 x3 x4 x5 y0 y1 y2 y3 y4 y5 : Nat) (wx0 : x0 < 2 ^ 32) (wx1 : x1 < 2 ^ 32) (wx2 : x2 < 2 ^ 32) (wx3 : x3 < 2 ^ 32) (wx4 : x4 < 2 ^ 32) (wx5 : x5 < 2 ^ 32) (wy0 : y0 < 2 ^ 32) (wy1 : y1 < 2 ^ 32) (wy2 : y2 < 2 ^ 32) (wy3 : y3 < 2 ^ 32) (wy4 : y4 < 2 ^ 32) (wy5 : y5 < 2 ^ 32) (w : World) : Calls Try.prog 12 #[.agg #[.float .f32 x0, .float .f32 x1, .float .f32 x2, .float .f32 x3, .float .f32 x4, .float .f32 x5], .agg #[.float .f32 y0, .float .f32 y1, .float .f32 y2, .float .f32 y3, .float .f32 y4, .float .f32 y5]] w fun e w' => e = .returned (.bool (allEq (six x0 x1 x2 x3 x4 x5) (six y0 y1 y2 y3 y4 y5) 6)) ∧ Gro w w' := by
  go_enter Try.func12, Try.ntmps12
  go_wp2_with fail
  refine (sameNumbers_c _ _ _ _ _ (six x0 x1 x2 x3 x4 x5) (six y0 y1 y2 y3 y4 y5) _ (SlF.keep (six_new (w := (w.alloc (.cells #[.float .f32 x0, .float .f32 x1, .float .f32 x2, .float .f32 x3, .float .f32 x4, .float .f32 x5] 26)).alloc (.cells #[.float .f32 y0, .float .f32 y1, .float .f32 y2, .float .f32 y3, .float .f32 y4, .float .f32 y5] 26)) (by simp)) (by repeat (first | exact Gro.refl _ | apply Gro.drewN | apply Gro.drew | apply Gro.alloc | refine Gro.setCell ?_ (by dsimp only; omega) _ | refine Gro.trans ?_ (by assumption)))) (six_new (by simp)) (six_wf wx0 wx1 wx2 wx3 wx4 wx5) (six_wf wy0 wy1 wy2 wy3 wy4 wy5)).mono ?_
  rintro e w1 ⟨m, rfl, rfl⟩
  go_wp2_with fail
  go_ret
  exact ⟨rfl, (by repeat (first | exact Gro.refl _ | apply Gro.drewN | apply Gro.drew | apply Gro.alloc | refine Gro.setCell ?_ (by dsimp only; omega) _ | refine Gro.trans ?_ (by assumption)))⟩

-- @has Float32bits
theorem f32bits_run (x : Nat) (w : World) : (callFunc 54 #[.float .f32 x]).run Try.prog w = .ok (.value (.int .u32 x)) w := by
  rw [run_callFunc_extern Try.func54 (e := Extern.MathFloatBits.float32bits) (by kernel_rfl) (by kernel_rfl) (by kernel_rfl) (by kernel_rfl)]; rfl

-- @has l01Bits
theorem l01Bits_c (b : Nat) (hb : WfC .f32 (cl .f32 b)) (w : World) :
    Calls Try.prog 43 #[.float .f32 b] w (RetV (.int .i64 (bitsC (cl .f32 b))) w) := by
  have hx := f32bits_run
  rcases h : cl .f32 b with _ | c
  · go_enter Try.func43, Try.ntmps43
    go_wp2
    go_ret
    exact ⟨0, rfl, rfl⟩
  · have hs := ford_self h
    obtain ⟨rfl, -⟩ := cl_some h
    have hb' : b < 2 ^ 32 := hb _ h
    clear hb
    go_enter Try.func43, Try.ntmps43
    go_wp2
    go_ret
    exact ⟨0, rfl, rfl⟩

-- @has l01Same
theorem l01Same_c (a b : Nat) (ha : WfC .f32 (cl .f32 a)) (hb : WfC .f32 (cl .f32 b)) (w : World) : Calls Try.prog 27 #[.float .f32 a, .float .f32 b] w (RetV (.bool (decide (cl .f32 a = cl .f32 b))) w) := by
  have hs := bitsC_same a b
  go_enter Try.func27, Try.ntmps27
  go_wp2_with (go_at_call 43; refine (l01Bits_c _ (by assumption) _).mono ?_; rintro e w' ⟨m, rfl, rfl⟩)
  go_ret
  exact ⟨_, rfl, rfl⟩

-- @has specSameOrbit
set_option maxHeartbeats 1600000 in
theorem specSameOrbit_c (x0 x1 x2 x3 x4 x5 y0 y1 y2 y3 y4 y5 : Nat) (wx0 : x0 < 2 ^ 32) (wx1 : x1 < 2 ^ 32) (wx2 : x2 < 2 ^ 32) (wx3 : x3 < 2 ^ 32) (wx4 : x4 < 2 ^ 32) (wx5 : x5 < 2 ^ 32) (wy0 : y0 < 2 ^ 32) (wy1 : y1 < 2 ^ 32) (wy2 : y2 < 2 ^ 32) (wy3 : y3 < 2 ^ 32) (wy4 : y4 < 2 ^ 32) (wy5 : y5 < 2 ^ 32) (w : World) : Calls Try.prog 10 #[.agg #[.float .f32 x0, .float .f32 x1, .float .f32 x2, .float .f32 x3, .float .f32 x4, .float .f32 x5], .agg #[.float .f32 y0, .float .f32 y1, .float .f32 y2, .float .f32 y3, .float .f32 y4, .float .f32 y5]] w fun e w' => e = .returned (.bool (allEq (six x0 x1 x2 x3 x4 x5) (six y0 y1 y2 y3 y4 y5) 6)) ∧ Gro w w' := by
  have e0 : allEq (six x0 x1 x2 x3 x4 x5) (six y0 y1 y2 y3 y4 y5) 6 = (decide (cl .f32 x0 = cl .f32 y0) && decide (cl .f32 x1 = cl .f32 y1) && decide (cl .f32 x2 = cl .f32 y2) && decide (cl .f32 x3 = cl .f32 y3) && decide (cl .f32 x4 = cl .f32 y4) && decide (cl .f32 x5 = cl .f32 y5)) := rfl
  have E := Lib.hid e0
  clear e0
  go_enter Try.func10, Try.ntmps10
  go_wp2_with (go_at_call 27; refine (l01Same_c _ _ (wf_cl (by assumption)) (wf_cl (by assumption)) _).mono ?_; rintro e w' ⟨m, rfl, rfl⟩)
  all_goals
    go_ret
    exact ⟨by rw [E.out]; simp [*], (by repeat (first | exact Gro.refl _ | apply Gro.drewN | apply Gro.drew | apply Gro.alloc | refine Gro.setCell ?_ (by dsimp only; omega) _ | refine Gro.trans ?_ (by assumption)))⟩

-- @has FnExactSameOrbit
set_option maxHeartbeats 4000000 in
theorem walk_FnExactSameOrbit (x0 x1 x2 x3 x4 x5 : Nat) (wx0 : x0 < 2 ^ 32) (wx1 : x1 < 2 ^ 32) (wx2 : x2 < 2 ^ 32) (wx3 : x3 < 2 ^ 32) (wx4 : x4 < 2 ^ 32) (wx5 : x5 < 2 ^ 32) (y0 y1 y2 y3 y4 y5 : Nat) (wy0 : y0 < 2 ^ 32) (wy1 : y1 < 2 ^ 32) (wy2 : y2 < 2 ^ 32) (wy3 : y3 < 2 ^ 32) (wy4 : y4 < 2 ^ 32) (wy5 : y5 < 2 ^ 32) (w : World) :
    Calls Try.prog 3 #[.agg #[.float .f32 x0, .float .f32 x1, .float .f32 x2, .float .f32 x3, .float .f32 x4, .float .f32 x5], .agg #[.float .f32 y0, .float .f32 y1, .float .f32 y2, .float .f32 y3, .float .f32 y4, .float .f32 y5]] w fun e w' => e = .returned (.bool true) ∧ Below w.heap.size w w' := by
  go_enter Try.func3, Try.ntmps3
  go_upto_region 1 with fail
  obtain ⟨w2, hw2, G0, Z0, c0, c1, c2, c3, c4, c5, c6, c7, c8, c9, c10, c11⟩ : ∃ w2, w2 = (w.alloc (.cells #[.float .f32 x0, .float .f32 x1, .float .f32 x2, .float .f32 x3, .float .f32 x4, .float .f32 x5] 24)).alloc (.cells #[.float .f32 y0, .float .f32 y1, .float .f32 y2, .float .f32 y3, .float .f32 y4, .float .f32 y5] 24) ∧ Gro w w2 ∧ w.heap.size + 1 < w2.heap.size ∧
      w2.cell? ⟨w.heap.size, 0, none⟩ = some (.float .f32 x0) ∧ w2.cell? ⟨w.heap.size, 1, none⟩ = some (.float .f32 x1) ∧ w2.cell? ⟨w.heap.size, 2, none⟩ = some (.float .f32 x2) ∧ w2.cell? ⟨w.heap.size, 3, none⟩ = some (.float .f32 x3) ∧ w2.cell? ⟨w.heap.size, 4, none⟩ = some (.float .f32 x4) ∧ w2.cell? ⟨w.heap.size, 5, none⟩ = some (.float .f32 x5) ∧ w2.cell? ⟨w.heap.size + 1, 0, none⟩ = some (.float .f32 y0) ∧ w2.cell? ⟨w.heap.size + 1, 1, none⟩ = some (.float .f32 y1) ∧ w2.cell? ⟨w.heap.size + 1, 2, none⟩ = some (.float .f32 y2) ∧ w2.cell? ⟨w.heap.size + 1, 3, none⟩ = some (.float .f32 y3) ∧ w2.cell? ⟨w.heap.size + 1, 4, none⟩ = some (.float .f32 y4) ∧ w2.cell? ⟨w.heap.size + 1, 5, none⟩ = some (.float .f32 y5) :=
    ⟨_, rfl, ((Gro.refl _).alloc _).alloc _, by simp, by simp [go_sem], by simp [go_sem], by simp [go_sem], by simp [go_sem], by simp [go_sem], by simp [go_sem], by simp [go_sem], by simp [go_sem], by simp [go_sem], by simp [go_sem], by simp [go_sem], by simp [go_sem]⟩
  rw [← hw2]
  clear hw2
  go_cut [5] (fun s5 wx => s5 = .bool (allEq (six x0 x1 x2 x3 x4 x5) (six y0 y1 y2 y3 y4 y5) 6) ∧ Gro w2 wx)
  case first =>
    go_region_held3 (fun w' => w'.cell? ⟨w.heap.size, 0, none⟩ = some (.float .f32 x0) ∧ w'.cell? ⟨w.heap.size, 1, none⟩ = some (.float .f32 x1) ∧ w'.cell? ⟨w.heap.size, 2, none⟩ = some (.float .f32 x2) ∧ w'.cell? ⟨w.heap.size, 3, none⟩ = some (.float .f32 x3) ∧ w'.cell? ⟨w.heap.size, 4, none⟩ = some (.float .f32 x4) ∧ w'.cell? ⟨w.heap.size, 5, none⟩ = some (.float .f32 x5) ∧ w'.cell? ⟨w.heap.size + 1, 0, none⟩ = some (.float .f32 y0) ∧ w'.cell? ⟨w.heap.size + 1, 1, none⟩ = some (.float .f32 y1) ∧ w'.cell? ⟨w.heap.size + 1, 2, none⟩ = some (.float .f32 y2) ∧ w'.cell? ⟨w.heap.size + 1, 3, none⟩ = some (.float .f32 y3) ∧ w'.cell? ⟨w.heap.size + 1, 4, none⟩ = some (.float .f32 y4) ∧ w'.cell? ⟨w.heap.size + 1, 5, none⟩ = some (.float .f32 y5))
      ((refine keep12 c0 c1 c2 c3 c4 c5 c6 c7 c8 c9 c10 c11 ?_; (repeat (first | exact Gro.refl _ | apply Gro.drewN | apply Gro.drew | apply Gro.alloc | refine Gro.setCell ?_ (by first | (dsimp only; omega) | (dsimp only; simp; omega)) _ | refine Gro.trans ?_ (by assumption)))))
      (first | (go_at_call 11; refine (toOrbit_c _ _ _ _ _ _ _).mono ?_; rintro e w1 ⟨rfl, hg⟩; have hcs := hg.cells; have hfs := hg.frozens; have hlt := hg.lts; have hz := hg.size; (try simp at hz); (try (have hzl := Nat.lt_of_succ_le hz))) | (go_at_call 10; refine (specSameOrbit_c _ _ _ _ _ _ _ _ _ _ _ _ wx0 wx1 wx2 wx3 wx4 wx5 wy0 wy1 wy2 wy3 wy4 wy5 _).mono ?_; rintro e w1 ⟨rfl, hg⟩; have hcs := hg.cells; have hfs := hg.frozens; have hlt := hg.lts; have hz := hg.size; (try simp at hz); (try (have hzl := Nat.lt_of_succ_le hz))))
    all_goals
      go_wp2_with fail
      go_meet
      exact ⟨rfl, (by repeat (first | exact Gro.refl _ | apply Gro.drewN | apply Gro.drew | apply Gro.alloc | refine Gro.setCell ?_ (by first | (dsimp only; omega) | (dsimp only; simp; omega)) _ | refine Gro.trans ?_ (by assumption)))⟩
  case rest =>
    obtain ⟨rfl, hg2⟩ := hcut
    replace G0 := G0.trans hg2
    replace Z0 := Nat.lt_of_lt_of_le Z0 hg2.size
    replace c0 := hg2.cell c0
    replace c1 := hg2.cell c1
    replace c2 := hg2.cell c2
    replace c3 := hg2.cell c3
    replace c4 := hg2.cell c4
    replace c5 := hg2.cell c5
    replace c6 := hg2.cell c6
    replace c7 := hg2.cell c7
    replace c8 := hg2.cell c8
    replace c9 := hg2.cell c9
    replace c10 := hg2.cell c10
    replace c11 := hg2.cell c11
    clear hg2 w2
    go_upto_region 2 with fail
    go_cut [6] (fun s6 wx => s6 = .bool (allEq (six x0 x1 x2 x3 x4 x5) (six y0 y1 y2 y3 y4 y5) 6) ∧ Gro wc wx)
    case first =>
      go_region_held3 (fun w' => w'.cell? ⟨w.heap.size, 0, none⟩ = some (.float .f32 x0) ∧ w'.cell? ⟨w.heap.size, 1, none⟩ = some (.float .f32 x1) ∧ w'.cell? ⟨w.heap.size, 2, none⟩ = some (.float .f32 x2) ∧ w'.cell? ⟨w.heap.size, 3, none⟩ = some (.float .f32 x3) ∧ w'.cell? ⟨w.heap.size, 4, none⟩ = some (.float .f32 x4) ∧ w'.cell? ⟨w.heap.size, 5, none⟩ = some (.float .f32 x5) ∧ w'.cell? ⟨w.heap.size + 1, 0, none⟩ = some (.float .f32 y0) ∧ w'.cell? ⟨w.heap.size + 1, 1, none⟩ = some (.float .f32 y1) ∧ w'.cell? ⟨w.heap.size + 1, 2, none⟩ = some (.float .f32 y2) ∧ w'.cell? ⟨w.heap.size + 1, 3, none⟩ = some (.float .f32 y3) ∧ w'.cell? ⟨w.heap.size + 1, 4, none⟩ = some (.float .f32 y4) ∧ w'.cell? ⟨w.heap.size + 1, 5, none⟩ = some (.float .f32 y5))
      ((refine keep12 c0 c1 c2 c3 c4 c5 c6 c7 c8 c9 c10 c11 ?_; (repeat (first | exact Gro.refl _ | apply Gro.drewN | apply Gro.drew | apply Gro.alloc | refine Gro.setCell ?_ (by first | (dsimp only; omega) | (dsimp only; simp; omega)) _ | refine Gro.trans ?_ (by assumption)))))
        (first | (go_at_call 11; refine (toOrbit_c _ _ _ _ _ _ _).mono ?_; rintro e w1 ⟨rfl, hg⟩; have hcs := hg.cells; have hfs := hg.frozens; have hlt := hg.lts; have hz := hg.size; (try simp at hz); (try (have hzl := Nat.lt_of_succ_le hz))) | (go_at_call 12; refine (implSameOrbit_c _ _ _ _ _ _ _ _ _ _ _ _ wx0 wx1 wx2 wx3 wx4 wx5 wy0 wy1 wy2 wy3 wy4 wy5 _).mono ?_; rintro e w1 ⟨rfl, hg⟩; have hcs := hg.cells; have hfs := hg.frozens; have hlt := hg.lts; have hz := hg.size; (try simp at hz); (try (have hzl := Nat.lt_of_succ_le hz))))
      all_goals
        go_wp2_with fail
        go_meet
        exact ⟨rfl, (by repeat (first | exact Gro.refl _ | apply Gro.drewN | apply Gro.drew | apply Gro.alloc | refine Gro.setCell ?_ (by first | (dsimp only; omega) | (dsimp only; simp; omega)) _ | refine Gro.trans ?_ (by assumption)))⟩
    case rest =>
      obtain ⟨rfl, hg2⟩ := hcut
      clear c0 c1 c2 c3 c4 c5 c6 c7 c8 c9 c10 c11 Z0
      go_wp2
      go_ret
      exact ⟨rfl, Gro.below (G0.trans hg2)⟩

end Go.Proofs.Ytepeohbcnfgliaa
