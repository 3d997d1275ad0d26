/- Contracts of Go functions: what each returns, as a class of words, whatever the world. -/
import Derived.Test.YtghcpeilbkgmaaaLaw
import Derived.Test.YtghcpeilbkgmaaaProg
import Derived.BigQuiet
import Derived.Deep.QuietTactic
import Derived.Deep.RegionHeld3
import Derived.Deep.DeepFit
import Derived.WalkSpells
import Derived.Lib.Hide
import Derived.WalkSmall
import Derived.Deep.DeepCutAuto
namespace Go.Proofs.Ytghcpeilbkgmaaa
open Go.RowKit Go.Fl

-- @has toVector
theorem toVector_c (x y z : Nat) (w : World) : Calls Try.prog 20 #[.agg #[.float .f32 x, .float .f32 y, .float .f32 z]] w fun e w' => e = .returned (.agg #[.float .f32 x, .float .f32 y, .float .f32 z]) ∧ Gro w w' := by
  go_enter Try.func20, Try.ntmps20
  go_wp2
  exact bodyPost_ret (v := .agg #[.float .f32 x, .float .f32 y, .float .f32 z]) (by simp [results, Try.results20, go_sem]) rfl ⟨rfl, (((Gro.refl _).alloc _).alloc _).alloc _⟩

-- @has vaddC
def vaddC (x y z a b c : Option Nat) : Option Nat × Option Nat × Option Nat := (fop .add .f32 x a, fop .add .f32 y b, fop .add .f32 z c)

-- @has implAddVectors
theorem implAddVectors_c (x y z a b c : Nat) (w : World) : Calls Try.prog 21 #[.agg #[.float .f32 x, .float .f32 y, .float .f32 z], .agg #[.float .f32 a, .float .f32 b, .float .f32 c]] w (RetVec (vaddC (cl .f32 x) (cl .f32 y) (cl .f32 z) (cl .f32 a) (cl .f32 b) (cl .f32 c)).1 (vaddC (cl .f32 x) (cl .f32 y) (cl .f32 z) (cl .f32 a) (cl .f32 b) (cl .f32 c)).2.1 (vaddC (cl .f32 x) (cl .f32 y) (cl .f32 z) (cl .f32 a) (cl .f32 b) (cl .f32 c)).2.2 w) := by
  go_enter Try.func21, Try.ntmps21
  go_wp2_with (refine wpList_farith _ _ _ _ _ _ rfl rfl _ _ _ rfl rfl rfl ?_; intro b1 n1 h1)
  unfold vaddC
  exact bodyPost_ret (v := .agg #[.float .f32 _, .float .f32 _, .float .f32 _]) (by simp [results, Try.results21, go_sem]; exact ⟨rfl, rfl, rfl⟩) rfl ⟨_, _, _, rfl, by simp only [*], by simp only [*], by simp only [*], (by repeat (first | exact Gro.refl _ | apply Gro.drewN | apply Gro.drew | apply Gro.alloc | refine Gro.setCell ?_ (by dsimp only; omega) _ | refine Gro.trans ?_ (by assumption)))⟩

-- @has l01VAdd
theorem l01VAdd_c (x y z a b c : Nat) (w : World) : Calls Try.prog 50 #[.agg #[.float .f32 x, .float .f32 y, .float .f32 z], .agg #[.float .f32 a, .float .f32 b, .float .f32 c]] w (RetVec (vaddC (cl .f32 x) (cl .f32 y) (cl .f32 z) (cl .f32 a) (cl .f32 b) (cl .f32 c)).1 (vaddC (cl .f32 x) (cl .f32 y) (cl .f32 z) (cl .f32 a) (cl .f32 b) (cl .f32 c)).2.1 (vaddC (cl .f32 x) (cl .f32 y) (cl .f32 z) (cl .f32 a) (cl .f32 b) (cl .f32 c)).2.2 w) := by
  go_enter Try.func50, Try.ntmps50
  go_wp2_with (refine wpList_farith _ _ _ _ _ _ rfl rfl _ _ _ rfl rfl rfl ?_; intro b1 n1 h1)
  unfold vaddC
  exact bodyPost_ret (v := .agg #[.float .f32 _, .float .f32 _, .float .f32 _]) (by simp [results, Try.results50, go_sem]; exact ⟨rfl, rfl, rfl⟩) rfl ⟨_, _, _, rfl, by simp only [*], by simp only [*], by simp only [*], (by repeat (first | exact Gro.refl _ | apply Gro.drewN | apply Gro.drew | apply Gro.alloc | refine Gro.setCell ?_ (by dsimp only; omega) _ | refine Gro.trans ?_ (by assumption)))⟩

-- @has specAddVectors
theorem specAddVectors_c (x y z a b c : Nat) (w : World) : Calls Try.prog 19 #[.agg #[.float .f32 x, .float .f32 y, .float .f32 z], .agg #[.float .f32 a, .float .f32 b, .float .f32 c]] w (RetVec (vaddC (cl .f32 x) (cl .f32 y) (cl .f32 z) (cl .f32 a) (cl .f32 b) (cl .f32 c)).1 (vaddC (cl .f32 x) (cl .f32 y) (cl .f32 z) (cl .f32 a) (cl .f32 b) (cl .f32 c)).2.1 (vaddC (cl .f32 x) (cl .f32 y) (cl .f32 z) (cl .f32 a) (cl .f32 b) (cl .f32 c)).2.2 w) := by
  go_enter Try.func19, Try.ntmps19
  go_wp2_with fail
  refine (l01VAdd_c _ _ _ _ _ _ _).mono ?_
  rintro e w1 ⟨r0, r1, r2, rfl, e0, e1, e2, hg⟩
  have k0 : w1.cell? ⟨w.heap.size + 1 + 1, 0, none⟩ = some (.float .f32 0) := hg.cell (by simp [go_sem])
  have k1 : w1.cell? ⟨w.heap.size + 1 + 1, 1, none⟩ = some (.float .f32 0) := hg.cell (by simp [go_sem])
  have k2 : w1.cell? ⟨w.heap.size + 1 + 1, 2, none⟩ = some (.float .f32 0) := hg.cell (by simp [go_sem])
  have f0 : w1.frozen? ⟨w.heap.size + 1 + 1, 0, none⟩ = false := hg.frozen (by simp) (World.frozen?_alloc_at _ _ _ _ (by simp))
  have f1 : w1.frozen? ⟨w.heap.size + 1 + 1, 1, none⟩ = false := hg.frozen (by simp) (World.frozen?_alloc_at _ _ _ _ (by simp))
  have f2 : w1.frozen? ⟨w.heap.size + 1 + 1, 2, none⟩ = false := hg.frozen (by simp) (World.frozen?_alloc_at _ _ _ _ (by simp))
  go_wp2_with fail
  exact bodyPost_ret (v := .agg #[.float .f32 r0, .float .f32 r1, .float .f32 r2]) (by simp [results, Try.results19, go_sem, k0, k1, k2]) rfl ⟨r0, r1, r2, rfl, e0, e1, e2, (by repeat (first | exact Gro.refl _ | apply Gro.drewN | apply Gro.drew | apply Gro.alloc | refine Gro.setCell ?_ (by dsimp only; omega) _ | refine Gro.trans ?_ (by assumption)))⟩

-- @has sameFloat
set_option maxHeartbeats 400000 in
theorem sameFloat_true (a b : Nat) (h : cl .f64 a = cl .f64 b) (w : World) :
    Calls Try.prog 31 #[.float .f64 a, .float .f64 b] w (RetV (.bool true) w) := by
  generalize hb : cl .f64 b = c at h
  rcases c with _ | c
  · go_enter Try.func31, Try.ntmps31
    go_wp2
    go_ret
    exact ⟨0, rfl, rfl⟩
  · have hs := ford_self h
    rcases h0 : ford .f64 (some c) (cl .f64 0) with _ | (_ | _ | _)
    all_goals
      go_enter Try.func31, Try.ntmps31
      go_wp2_with (refine wpList_farith _ _ _ _ _ _ rfl rfl _ _ _ rfl rfl rfl ?_; intro b1 n1 h1)
      go_ret
      first | exact ⟨0, rfl, rfl⟩ | exact ⟨_, rfl, rfl⟩

-- @has eqVector
theorem eqVector_true (x y z a b c : Nat) (h1 : cl .f32 x = cl .f32 a) (h2 : cl .f32 y = cl .f32 b) (h3 : cl .f32 z = cl .f32 c) (w : World) :
    Calls Try.prog 22 #[.agg #[.float .f32 x, .float .f32 y, .float .f32 z], .agg #[.float .f32 a, .float .f32 b, .float .f32 c]] w fun e w' => e = .returned (.bool true) ∧ Gro w w' := by
  go_enter Try.func22, Try.ntmps22
  go_wp2_with (first | (refine wpList_widen _ _ _ _ rfl _ rfl Try.underlying38 (by rw [Try.underlying25]; rfl) rfl ?_; intro b1 n1 h1) | (go_at_call 31; refine (sameFloat_true _ _ (by simp only [*]) _).mono ?_; rintro e w1 ⟨m1, rfl, rfl⟩))
  go_ret
  exact ⟨rfl, (by repeat (first | exact Gro.refl _ | apply Gro.drewN | apply Gro.drew | apply Gro.alloc | refine Gro.setCell ?_ (by dsimp only; omega) _ | refine Gro.trans ?_ (by assumption)))⟩

-- @has FnExactAddVectors
set_option maxHeartbeats 2000000 in
theorem walk_FnExactAddVectors (x y z : Nat) (_hx : x < 2 ^ 32) (_hy : y < 2 ^ 32) (_hz : z < 2 ^ 32) (a b c : Nat) (_ha : a < 2 ^ 32) (_hb : b < 2 ^ 32) (_hc : c < 2 ^ 32) (w : World) :
    Calls Try.prog 5 #[.agg #[.float .f32 x, .float .f32 y, .float .f32 z], .agg #[.float .f32 a, .float .f32 b, .float .f32 c]] w fun e w' => e = .returned (.bool true) ∧ Below w.heap.size w w' := by
  go_enter Try.func5, Try.ntmps5
  go_upto_region 1 with fail
  obtain ⟨w2, hw2, G0, Z0, c0, c1, c2, c3, c4, c5⟩ : ∃ w2, w2 = (w.alloc (.cells #[.float .f32 x, .float .f32 y, .float .f32 z] 28)).alloc (.cells #[.float .f32 a, .float .f32 b, .float .f32 c] 28) ∧ Gro w w2 ∧ w.heap.size + 1 < w2.heap.size ∧
      w2.cell? ⟨w.heap.size, 0, none⟩ = some (.float .f32 x) ∧ w2.cell? ⟨w.heap.size, 1, none⟩ = some (.float .f32 y) ∧ w2.cell? ⟨w.heap.size, 2, none⟩ = some (.float .f32 z) ∧
      w2.cell? ⟨w.heap.size + 1, 0, none⟩ = some (.float .f32 a) ∧ w2.cell? ⟨w.heap.size + 1, 1, none⟩ = some (.float .f32 b) ∧ w2.cell? ⟨w.heap.size + 1, 2, none⟩ = some (.float .f32 c) :=
    ⟨_, rfl, ((Gro.refl _).alloc _).alloc _, by simp, by simp [go_sem], by simp [go_sem], by simp [go_sem], by simp [go_sem], by simp [go_sem], by simp [go_sem]⟩
  rw [← hw2]
  clear hw2
  go_cut [5] (fun s5 wx => VecAt s5 (vaddC (cl .f32 x) (cl .f32 y) (cl .f32 z) (cl .f32 a) (cl .f32 b) (cl .f32 c)).1 (vaddC (cl .f32 x) (cl .f32 y) (cl .f32 z) (cl .f32 a) (cl .f32 b) (cl .f32 c)).2.1 (vaddC (cl .f32 x) (cl .f32 y) (cl .f32 z) (cl .f32 a) (cl .f32 b) (cl .f32 c)).2.2 wx ∧ Gro w2 wx)
  case first =>
    go_region_held3 (fun w' => w'.cell? ⟨w.heap.size, 0, none⟩ = some (.float .f32 x) ∧ w'.cell? ⟨w.heap.size, 1, none⟩ = some (.float .f32 y) ∧ w'.cell? ⟨w.heap.size, 2, none⟩ = some (.float .f32 z) ∧ w'.cell? ⟨w.heap.size + 1, 0, none⟩ = some (.float .f32 a) ∧ w'.cell? ⟨w.heap.size + 1, 1, none⟩ = some (.float .f32 b) ∧ w'.cell? ⟨w.heap.size + 1, 2, none⟩ = some (.float .f32 c))
      ((refine keep6 c0 c1 c2 c3 c4 c5 ?_; (repeat (first | exact Gro.refl _ | apply Gro.drewN | apply Gro.drew | apply Gro.alloc | refine Gro.setCell ?_ (by first | (dsimp only; omega) | (dsimp only; simp; omega)) _ | refine Gro.trans ?_ (by assumption)))))
      (first | (go_at_call 20; refine (toVector_c _ _ _ _).mono ?_; rintro e w1 ⟨rfl, hg⟩; have hcs := hg.cells; have hfs := hg.frozens; have hlt := hg.lts; have hz := hg.size; (try simp at hz); (try (have hzl := Nat.lt_of_succ_le hz))) | (go_at_call 19; refine (specAddVectors_c _ _ _ _ _ _ _).mono ?_; rintro e w1 ⟨r0, r1, r2, rfl, e0, e1, e2, hg⟩; have hcs := hg.cells; have hfs := hg.frozens; have hlt := hg.lts; have hz := hg.size; (try simp at hz); (try (have hzl := Nat.lt_of_succ_le hz))))
    all_goals
      go_wp2_with fail
      go_meet
      refine ⟨?_, (by repeat (first | exact Gro.refl _ | apply Gro.drewN | apply Gro.drew | apply Gro.alloc | refine Gro.setCell ?_ (by first | (dsimp only; omega) | (dsimp only; simp; omega)) _ | refine Gro.trans ?_ (by assumption)))⟩
      first | with_reducible exact VecAt.alloc e0 e1 e2 | (refine VecAt.stores (z0 := .float .f32 0) (z1 := .float .f32 0) (z2 := .float .f32 0) ?_ ?_ ?_ e0 e1 e2 <;> go_simp)
  case rest =>
    obtain ⟨hv, hg2⟩ := hcut
    replace c0 := hg2.cell c0
    replace c1 := hg2.cell c1
    replace c2 := hg2.cell c2
    replace c3 := hg2.cell c3
    replace c4 := hg2.cell c4
    replace c5 := hg2.cell c5
    replace G0 := G0.trans hg2
    replace Z0 := Nat.lt_of_lt_of_le Z0 hg2.size
    clear hg2 w2
    go_upto_region 2 with fail
    go_cut [6] (fun s6 wx => VecAt s6 (vaddC (cl .f32 x) (cl .f32 y) (cl .f32 z) (cl .f32 a) (cl .f32 b) (cl .f32 c)).1 (vaddC (cl .f32 x) (cl .f32 y) (cl .f32 z) (cl .f32 a) (cl .f32 b) (cl .f32 c)).2.1 (vaddC (cl .f32 x) (cl .f32 y) (cl .f32 z) (cl .f32 a) (cl .f32 b) (cl .f32 c)).2.2 wx ∧ Gro wc wx)
    case first =>
      go_region_held3 (fun w' => w'.cell? ⟨w.heap.size, 0, none⟩ = some (.float .f32 x) ∧ w'.cell? ⟨w.heap.size, 1, none⟩ = some (.float .f32 y) ∧ w'.cell? ⟨w.heap.size, 2, none⟩ = some (.float .f32 z) ∧ w'.cell? ⟨w.heap.size + 1, 0, none⟩ = some (.float .f32 a) ∧ w'.cell? ⟨w.heap.size + 1, 1, none⟩ = some (.float .f32 b) ∧ w'.cell? ⟨w.heap.size + 1, 2, none⟩ = some (.float .f32 c))
      ((refine keep6 c0 c1 c2 c3 c4 c5 ?_; (repeat (first | exact Gro.refl _ | apply Gro.drewN | apply Gro.drew | apply Gro.alloc | refine Gro.setCell ?_ (by first | (dsimp only; omega) | (dsimp only; simp; omega)) _ | refine Gro.trans ?_ (by assumption)))))
        (first | (go_at_call 20; refine (toVector_c _ _ _ _).mono ?_; rintro e w1 ⟨rfl, hg⟩; have hcs := hg.cells; have hfs := hg.frozens; have hlt := hg.lts; have hz := hg.size; (try simp at hz); (try (have hzl := Nat.lt_of_succ_le hz))) | (go_at_call 21; refine (implAddVectors_c _ _ _ _ _ _ _).mono ?_; rintro e w1 ⟨r0, r1, r2, rfl, e0, e1, e2, hg⟩; have hcs := hg.cells; have hfs := hg.frozens; have hlt := hg.lts; have hz := hg.size; (try simp at hz); (try (have hzl := Nat.lt_of_succ_le hz))))
      all_goals
        go_wp2_with fail
        go_meet
        refine ⟨?_, (by repeat (first | exact Gro.refl _ | apply Gro.drewN | apply Gro.drew | apply Gro.alloc | refine Gro.setCell ?_ (by first | (dsimp only; omega) | (dsimp only; simp; omega)) _ | refine Gro.trans ?_ (by assumption)))⟩
        first | with_reducible exact VecAt.alloc e0 e1 e2 | (refine VecAt.stores (z0 := .float .f32 0) (z1 := .float .f32 0) (z2 := .float .f32 0) ?_ ?_ ?_ e0 e1 e2 <;> go_simp)
    case rest =>
      obtain ⟨hv2, hg2⟩ := hcut
      replace hv := hv.keep hg2
      replace G0 := G0.trans hg2
      clear hg2 Z0 c0 c1 c2 c3 c4 c5
      obtain ⟨g5, p0, p1, p2, rfl, k0, k1, k2, e0, e1, e2⟩ := hv
      obtain ⟨g6, q0, q1, q2, rfl, l0, l1, l2, f0, f1, f2⟩ := hv2
      have h0 := Lib.hid (f0.trans e0.symm)
      have h1 := Lib.hid (f1.trans e1.symm)
      have h2 := Lib.hid (f2.trans e2.symm)
      clear e0 e1 e2 f0 f1 f2
      go_wp2_with (go_at_call 22; refine (eqVector_true _ _ _ _ _ _ h0.out h1.out h2.out _).mono ?_; rintro e w1 ⟨rfl, hg⟩)
      go_ret
      exact ⟨rfl, Gro.below (G0.trans hg)⟩

end Go.Proofs.Ytghcpeilbkgmaaa
