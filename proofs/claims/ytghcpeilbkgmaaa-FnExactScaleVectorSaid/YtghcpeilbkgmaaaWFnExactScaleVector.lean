/- Contracts of Go functions: what each returns, as a class of words, whatever the world. -/
import Derived.Test.YtghcpeilbkgmaaaLaw
import Derived.Test.YtghcpeilbkgmaaaProg
import Derived.BigQuiet
import Derived.Deep.QuietTactic
import Derived.Deep.RegionHeld3
import Derived.Deep.DeepFit
import Derived.WalkSpells
import Derived.Lib.Hide
import Derived.WalkSmall
import Derived.Deep.DeepCutAuto
namespace Go.Proofs.Ytghcpeilbkgmaaa
open Go.RowKit Go.Fl

-- @has toVector
theorem toVector_c (x y z : Nat) (w : World) : Calls Try.prog 20 #[.agg #[.float .f32 x, .float .f32 y, .float .f32 z]] w fun e w' => e = .returned (.agg #[.float .f32 x, .float .f32 y, .float .f32 z]) ∧ Gro w w' := by
  go_enter Try.func20, Try.ntmps20
  go_wp2
  exact bodyPost_ret (v := .agg #[.float .f32 x, .float .f32 y, .float .f32 z]) (by simp [results, Try.results20, go_sem]) rfl ⟨rfl, (((Gro.refl _).alloc _).alloc _).alloc _⟩

-- @has vscaleC
def vscaleC (x y z k : Option Nat) : Option Nat × Option Nat × Option Nat := (fop .mul .f32 x k, fop .mul .f32 y k, fop .mul .f32 z k)

-- @has implScaleVector
theorem implScaleVector_c (x y z k : Nat) (w : World) : Calls Try.prog 26 #[.agg #[.float .f32 x, .float .f32 y, .float .f32 z], .float .f32 k] w (RetVec (vscaleC (cl .f32 x) (cl .f32 y) (cl .f32 z) (cl .f32 k)).1 (vscaleC (cl .f32 x) (cl .f32 y) (cl .f32 z) (cl .f32 k)).2.1 (vscaleC (cl .f32 x) (cl .f32 y) (cl .f32 z) (cl .f32 k)).2.2 w) := by
  go_enter Try.func26, Try.ntmps26
  go_wp2_with (refine wpList_farith _ _ _ _ _ _ rfl rfl _ _ _ rfl rfl rfl ?_; intro b1 n1 h1)
  unfold vscaleC
  exact bodyPost_ret (v := .agg #[.float .f32 _, .float .f32 _, .float .f32 _]) (by simp [results, Try.results26, go_sem]; exact ⟨rfl, rfl, rfl⟩) rfl ⟨_, _, _, rfl, by simp only [*], by simp only [*], by simp only [*], (by repeat (first | exact Gro.refl _ | apply Gro.drewN | apply Gro.drew | apply Gro.alloc | refine Gro.setCell ?_ (by dsimp only; omega) _ | refine Gro.trans ?_ (by assumption)))⟩

-- @has l01VScale
theorem l01VScale_c (x y z k : Nat) (w : World) : Calls Try.prog 52 #[.agg #[.float .f32 x, .float .f32 y, .float .f32 z], .float .f32 k] w (RetVec (vscaleC (cl .f32 x) (cl .f32 y) (cl .f32 z) (cl .f32 k)).1 (vscaleC (cl .f32 x) (cl .f32 y) (cl .f32 z) (cl .f32 k)).2.1 (vscaleC (cl .f32 x) (cl .f32 y) (cl .f32 z) (cl .f32 k)).2.2 w) := by
  go_enter Try.func52, Try.ntmps52
  go_wp2_with (refine wpList_farith _ _ _ _ _ _ rfl rfl _ _ _ rfl rfl rfl ?_; intro b1 n1 h1)
  unfold vscaleC
  exact bodyPost_ret (v := .agg #[.float .f32 _, .float .f32 _, .float .f32 _]) (by simp [results, Try.results52, go_sem]; exact ⟨rfl, rfl, rfl⟩) rfl ⟨_, _, _, rfl, by simp only [*], by simp only [*], by simp only [*], (by repeat (first | exact Gro.refl _ | apply Gro.drewN | apply Gro.drew | apply Gro.alloc | refine Gro.setCell ?_ (by dsimp only; omega) _ | refine Gro.trans ?_ (by assumption)))⟩

-- @has specScaleVector
theorem specScaleVector_c (x y z k : Nat) (w : World) : Calls Try.prog 25 #[.agg #[.float .f32 x, .float .f32 y, .float .f32 z], .float .f32 k] w (RetVec (vscaleC (cl .f32 x) (cl .f32 y) (cl .f32 z) (cl .f32 k)).1 (vscaleC (cl .f32 x) (cl .f32 y) (cl .f32 z) (cl .f32 k)).2.1 (vscaleC (cl .f32 x) (cl .f32 y) (cl .f32 z) (cl .f32 k)).2.2 w) := by
  go_enter Try.func25, Try.ntmps25
  go_wp2_with fail
  refine (l01VScale_c _ _ _ _ _).mono ?_
  rintro e w1 ⟨r0, r1, r2, rfl, e0, e1, e2, hg⟩
  have k0 : w1.cell? ⟨w.heap.size + 1, 0, none⟩ = some (.float .f32 0) := hg.cell (by simp [go_sem])
  have k1 : w1.cell? ⟨w.heap.size + 1, 1, none⟩ = some (.float .f32 0) := hg.cell (by simp [go_sem])
  have k2 : w1.cell? ⟨w.heap.size + 1, 2, none⟩ = some (.float .f32 0) := hg.cell (by simp [go_sem])
  have f0 : w1.frozen? ⟨w.heap.size + 1, 0, none⟩ = false := hg.frozen (by simp) (World.frozen?_alloc_at _ _ _ _ (by simp))
  have f1 : w1.frozen? ⟨w.heap.size + 1, 1, none⟩ = false := hg.frozen (by simp) (World.frozen?_alloc_at _ _ _ _ (by simp))
  have f2 : w1.frozen? ⟨w.heap.size + 1, 2, none⟩ = false := hg.frozen (by simp) (World.frozen?_alloc_at _ _ _ _ (by simp))
  go_wp2_with fail
  exact bodyPost_ret (v := .agg #[.float .f32 r0, .float .f32 r1, .float .f32 r2]) (by simp [results, Try.results25, go_sem, k0, k1, k2]) rfl ⟨r0, r1, r2, rfl, e0, e1, e2, (by repeat (first | exact Gro.refl _ | apply Gro.drewN | apply Gro.drew | apply Gro.alloc | refine Gro.setCell ?_ (by dsimp only; omega) _ | refine Gro.trans ?_ (by assumption)))⟩

-- @has sameFloat
set_option maxHeartbeats 400000 in
theorem sameFloat_true (a b : Nat) (h : cl .f64 a = cl .f64 b) (w : World) :
    Calls Try.prog 31 #[.float .f64 a, .float .f64 b] w (RetV (.bool true) w) := by
  generalize hb : cl .f64 b = c at h
  rcases c with _ | c
  · go_enter Try.func31, Try.ntmps31
    go_wp2
    go_ret
    exact ⟨0, rfl, rfl⟩
  · have hs := ford_self h
    rcases h0 : ford .f64 (some c) (cl .f64 0) with _ | (_ | _ | _)
    all_goals
      go_enter Try.func31, Try.ntmps31
      go_wp2_with (refine wpList_farith _ _ _ _ _ _ rfl rfl _ _ _ rfl rfl rfl ?_; intro b1 n1 h1)
      go_ret
      first | exact ⟨0, rfl, rfl⟩ | exact ⟨_, rfl, rfl⟩

-- @has eqVector
theorem eqVector_true (x y z a b c : Nat) (h1 : cl .f32 x = cl .f32 a) (h2 : cl .f32 y = cl .f32 b) (h3 : cl .f32 z = cl .f32 c) (w : World) :
    Calls Try.prog 22 #[.agg #[.float .f32 x, .float .f32 y, .float .f32 z], .agg #[.float .f32 a, .float .f32 b, .float .f32 c]] w fun e w' => e = .returned (.bool true) ∧ Gro w w' := by
  go_enter Try.func22, Try.ntmps22
  go_wp2_with (first | (refine wpList_widen _ _ _ _ rfl _ rfl Try.underlying38 (by rw [Try.underlying25]; rfl) rfl ?_; intro b1 n1 h1) | (go_at_call 31; refine (sameFloat_true _ _ (by simp only [*]) _).mono ?_; rintro e w1 ⟨m1, rfl, rfl⟩))
  go_ret
  exact ⟨rfl, (by repeat (first | exact Gro.refl _ | apply Gro.drewN | apply Gro.drew | apply Gro.alloc | refine Gro.setCell ?_ (by dsimp only; omega) _ | refine Gro.trans ?_ (by assumption)))⟩

-- @has FnExactScaleVector
set_option maxHeartbeats 1000000 in
theorem walk_FnExactScaleVector (x y z : Nat) (_hx : x < 2 ^ 32) (_hy : y < 2 ^ 32) (_hz : z < 2 ^ 32) (k : Nat) (_hk : k < 2 ^ 32) (w : World) :
    Calls Try.prog 7 #[.agg #[.float .f32 x, .float .f32 y, .float .f32 z], .float .f32 k] w fun e w' => e = .returned (.bool true) ∧ Below w.heap.size w w' := by
  go_enter Try.func7, Try.ntmps7
  go_wp2_with (first | (go_at_call 20; refine (toVector_c _ _ _ _).mono ?_; rintro e w1 ⟨rfl, hg⟩; have hcs := hg.cells; have hfs := hg.frozens; have hlt := hg.lts; have hz := hg.size; (try simp at hz); (try (have hzl := Nat.lt_of_succ_le hz))) | (go_at_call 25; refine (specScaleVector_c _ _ _ _ _).mono ?_; rintro e w1 ⟨r0, r1, r2, rfl, e0, e1, e2, hg⟩; have hcs := hg.cells; have hfs := hg.frozens; have hlt := hg.lts; have hz := hg.size; (try simp at hz); (try (have hzl := Nat.lt_of_succ_le hz))) | (go_at_call 26; refine (implScaleVector_c _ _ _ _ _).mono ?_; rintro e w1 ⟨q0, q1, q2, rfl, d0, d1, d2, hg⟩; have hcs := hg.cells; have hfs := hg.frozens; have hlt := hg.lts; have hz := hg.size; (try simp at hz); (try (have hzl := Nat.lt_of_succ_le hz))) | (go_at_call 22; refine (eqVector_true _ _ _ _ _ _ (d0.trans e0.symm) (d1.trans e1.symm) (d2.trans e2.symm) _).mono ?_; rintro e w1 ⟨rfl, hg⟩))
  go_ret
  exact ⟨rfl, Gro.below (by repeat (first | exact Gro.refl _ | apply Gro.drewN | apply Gro.drew | apply Gro.alloc | refine Gro.setCell ?_ (by first | (dsimp only; omega) | (dsimp only; simp; omega)) _ | refine Gro.trans ?_ (by assumption)))⟩

end Go.Proofs.Ytghcpeilbkgmaaa
