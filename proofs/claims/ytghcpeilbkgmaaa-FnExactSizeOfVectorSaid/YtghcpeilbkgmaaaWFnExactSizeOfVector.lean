/- Contracts of Go functions: what each returns, as a class of words, whatever the world. -/
import Derived.Test.YtghcpeilbkgmaaaLaw
import Derived.Test.YtghcpeilbkgmaaaProg
import Derived.BigQuiet
import Derived.Deep.QuietTactic
import Derived.Deep.RegionHeld3
import Derived.Deep.DeepFit
import Derived.WalkSpells
import Derived.Lib.Hide
import Derived.WalkSmall
import Derived.Deep.DeepCutAuto
namespace Go.Proofs.Ytghcpeilbkgmaaa
open Go.RowKit Go.Fl

-- @has toVector
theorem toVector_c (x y z : Nat) (w : World) : Calls Try.prog 20 #[.agg #[.float .f32 x, .float .f32 y, .float .f32 z]] w fun e w' => e = .returned (.agg #[.float .f32 x, .float .f32 y, .float .f32 z]) ∧ Gro w w' := by
  go_enter Try.func20, Try.ntmps20
  go_wp2
  exact bodyPost_ret (v := .agg #[.float .f32 x, .float .f32 y, .float .f32 z]) (by simp [results, Try.results20, go_sem]) rfl ⟨rfl, (((Gro.refl _).alloc _).alloc _).alloc _⟩

-- @has implInnerOf
def innerC (x y z a b c : Option Nat) : Option Nat := fop .add .f32 (fop .add .f32 (fop .mul .f32 x a) (fop .mul .f32 y b)) (fop .mul .f32 z c)
theorem implInnerOf_c (x y z a b c : Nat) (w : World) : Calls Try.prog 64 #[.agg #[.float .f32 x, .float .f32 y, .float .f32 z], .agg #[.float .f32 a, .float .f32 b, .float .f32 c]] w (RetG .f32 (innerC (cl .f32 x) (cl .f32 y) (cl .f32 z) (cl .f32 a) (cl .f32 b) (cl .f32 c)) w) := by
  go_enter Try.func64, Try.ntmps64
  go_wp2_with (refine wpList_farith _ _ _ _ _ _ rfl rfl _ _ _ rfl rfl rfl ?_; intro b1 n1 h1)
  go_ret
  exact ⟨_, rfl, by simp only [*, innerC], (((Gro.refl _).alloc _).alloc _).drewN _⟩

-- @has sqrt
theorem sqrt_run (x : Nat) (w : World) : (callFunc 73 #[.float .f64 x]).run Try.prog w = ((Extern.MathSqrt.sqrt #[.float .f64 x]).run Try.prog w).andThen fun v w' => .ok (.value v) w' :=
  run_callFunc_extern Try.func73 (by kernel_rfl) (by kernel_rfl) (by kernel_rfl) (by kernel_rfl) _ _

-- @has Sqrt
theorem Sqrt_c (b : Nat) (w : World) : Calls Try.prog 62 #[.float .f64 b] w (RetF .f64 (fsqrt (cl .f64 b)) w) := by
  go_enter Try.func62, Try.ntmps62
  go_wp2_with (refine wpList_sqrt _ 73 sqrt_run _ _ rfl _ rfl rfl ?_; intro b1 n1 h1)
  go_ret
  exact ⟨_, _, rfl, by assumption, rfl⟩

-- @has implRootNumber
theorem implRootNumber_c (b : Nat) (w : World) : Calls Try.prog 41 #[.float .f32 b] w (RetF .f32 (narrow (fsqrt (widen (cl .f32 b)))) w) := by
  have hf := Lib.hid (fits_sqrt b)
  go_enter Try.func41, Try.ntmps41
  go_wp2_with (first | (refine wpList_widen _ _ _ _ rfl _ rfl Try.underlying38 (by rw [Try.underlying25]; rfl) rfl ?_; intro b1 n1 h1) | (go_at_call 62; refine (Sqrt_c _ _).mono ?_; rintro e w1 ⟨r, n, rfl, hr, rfl⟩) | (refine wpList_narrow _ _ _ _ rfl _ rfl Try.underlying25 (by rw [Try.underlying38]; rfl) rfl (by rw [hr, h1]; exact hf.out) ?_; intro b1 n1 h1))
  go_ret
  exact ⟨_, _, rfl, by simp only [*], rfl⟩

-- @has implSizeOfVector
def sizeC (x y z : Option Nat) : Option Nat := narrow (fsqrt (widen (innerC x y z x y z)))
theorem implSizeOfVector_c (x y z : Nat) (w : World) : Calls Try.prog 43 #[.agg #[.float .f32 x, .float .f32 y, .float .f32 z]] w (RetG .f32 (sizeC (cl .f32 x) (cl .f32 y) (cl .f32 z)) w) := by
  go_enter Try.func43, Try.ntmps43
  go_wp2_with (first | (go_at_call 64; refine (implInnerOf_c _ _ _ _ _ _ _).mono ?_; rintro e w1 ⟨r, rfl, hr, hg⟩) | (go_at_call 41; refine (implRootNumber_c _ _).mono ?_; rintro e w1 ⟨q, n, rfl, hq, rfl⟩))
  go_ret
  exact ⟨_, rfl, by rw [hq, hr]; rfl, (by repeat (first | exact Gro.refl _ | apply Gro.drewN | apply Gro.drew | apply Gro.alloc | refine Gro.setCell ?_ (by first | (dsimp only; omega) | (dsimp only; simp; omega)) _ | refine Gro.trans ?_ (by assumption)))⟩

-- @has l01VInner
theorem l01VInner_c (x y z a b c : Nat) (w : World) : Calls Try.prog 74 #[.agg #[.float .f32 x, .float .f32 y, .float .f32 z], .agg #[.float .f32 a, .float .f32 b, .float .f32 c]] w (RetG .f32 (innerC (cl .f32 x) (cl .f32 y) (cl .f32 z) (cl .f32 a) (cl .f32 b) (cl .f32 c)) w) := by
  go_enter Try.func74, Try.ntmps74
  go_wp2_with (refine wpList_farith _ _ _ _ _ _ rfl rfl _ _ _ rfl rfl rfl ?_; intro b1 n1 h1)
  go_ret
  exact ⟨_, rfl, by simp only [*, innerC], (((Gro.refl _).alloc _).alloc _).drewN _⟩

-- @has l01NarrowRoot
theorem l01Narrow_c (b : Nat) (hf : fits (cl .f64 b) = true) (w : World) : Calls Try.prog 72 #[.float .f64 b] w (RetF .f32 (narrow (cl .f64 b)) w) := by
  have H := Lib.hid hf
  clear hf
  go_enter Try.func72, Try.ntmps72
  go_wp2_with (refine wpList_narrow _ _ _ _ rfl _ rfl Try.underlying25 (by rw [Try.underlying38]; rfl) rfl (H.out) ?_; intro b1 n1 h1)
  go_ret
  exact ⟨_, _, rfl, by assumption, rfl⟩

-- @has l01Sqrt
theorem l01Sqrt_c (b : Nat) (w : World) : Calls Try.prog 61 #[.float .f32 b] w (RetF .f32 (narrow (fsqrt (widen (cl .f32 b)))) w) := by
  have hf := Lib.hid (fits_sqrt b)
  go_enter Try.func61, Try.ntmps61
  go_wp2_with (first | (refine wpList_widen _ _ _ _ rfl _ rfl Try.underlying38 (by rw [Try.underlying25]; rfl) rfl ?_; intro b1 n1 h1) | (go_at_call 62; refine (Sqrt_c _ _).mono ?_; rintro e w1 ⟨r, n, rfl, hr, rfl⟩) | (go_at_call 72; refine (l01Narrow_c _ (by rw [hr, h1]; exact hf.out) _).mono ?_; rintro e w1 ⟨q, m, rfl, hq, rfl⟩))
  go_ret
  exact ⟨_, _, rfl, by simp only [*], rfl⟩

-- @has l01VLong
theorem l01VLong_c (x y z : Nat) (w : World) : Calls Try.prog 63 #[.agg #[.float .f32 x, .float .f32 y, .float .f32 z]] w (RetG .f32 (sizeC (cl .f32 x) (cl .f32 y) (cl .f32 z)) w) := by
  go_enter Try.func63, Try.ntmps63
  go_wp2_with (first | (go_at_call 74; refine (l01VInner_c _ _ _ _ _ _ _).mono ?_; rintro e w1 ⟨r, rfl, hr, hg⟩) | (go_at_call 61; refine (l01Sqrt_c _ _).mono ?_; rintro e w1 ⟨q, n, rfl, hq, rfl⟩))
  go_ret
  exact ⟨_, rfl, by rw [hq, hr]; rfl, (by repeat (first | exact Gro.refl _ | apply Gro.drewN | apply Gro.drew | apply Gro.alloc | refine Gro.setCell ?_ (by first | (dsimp only; omega) | (dsimp only; simp; omega)) _ | refine Gro.trans ?_ (by assumption)))⟩
theorem specSizeOfVector_c (x y z : Nat) (w : World) : Calls Try.prog 42 #[.agg #[.float .f32 x, .float .f32 y, .float .f32 z]] w (RetG .f32 (sizeC (cl .f32 x) (cl .f32 y) (cl .f32 z)) w) := by
  go_enter Try.func42, Try.ntmps42
  go_wp2_with (go_at_call 63; refine (l01VLong_c _ _ _ _).mono ?_; rintro e w1 ⟨r, rfl, hr, hg⟩)
  go_ret
  exact ⟨_, rfl, hr, (by repeat (first | exact Gro.refl _ | apply Gro.drewN | apply Gro.drew | apply Gro.alloc | refine Gro.setCell ?_ (by first | (dsimp only; omega) | (dsimp only; simp; omega)) _ | refine Gro.trans ?_ (by assumption)))⟩

-- @has sameFloat
set_option maxHeartbeats 400000 in
theorem sameFloat_true (a b : Nat) (h : cl .f64 a = cl .f64 b) (w : World) :
    Calls Try.prog 31 #[.float .f64 a, .float .f64 b] w (RetV (.bool true) w) := by
  generalize hb : cl .f64 b = c at h
  rcases c with _ | c
  · go_enter Try.func31, Try.ntmps31
    go_wp2
    go_ret
    exact ⟨0, rfl, rfl⟩
  · have hs := ford_self h
    rcases h0 : ford .f64 (some c) (cl .f64 0) with _ | (_ | _ | _)
    all_goals
      go_enter Try.func31, Try.ntmps31
      go_wp2_with (refine wpList_farith _ _ _ _ _ _ rfl rfl _ _ _ rfl rfl rfl ?_; intro b1 n1 h1)
      go_ret
      first | exact ⟨0, rfl, rfl⟩ | exact ⟨_, rfl, rfl⟩

-- @has FnExactSizeOfVector
set_option maxHeartbeats 400000 in
theorem walk_FnExactSizeOfVector (x y z : Nat) (_hx : x < 2 ^ 32) (_hy : y < 2 ^ 32) (_hz : z < 2 ^ 32) (w : World) : Calls Try.prog 14 #[.agg #[.float .f32 x, .float .f32 y, .float .f32 z]] w fun e w' => e = .returned (.bool true) ∧ Below w.heap.size w w' := by
  go_enter Try.func14, Try.ntmps14
  go_wp2_with (first | (go_at_call 20; refine (toVector_c _ _ _ _).mono ?_; rintro e w1 ⟨rfl, hg⟩; have hcs := hg.cells; have hfs := hg.frozens; have hlt := hg.lts; have hz := hg.size; (try simp at hz); (try (have hzl := Nat.lt_of_succ_le hz))) | (go_at_call 42; refine (specSizeOfVector_c _ _ _ _).mono ?_; rintro e w1 ⟨r, rfl, hr, hg⟩; have hcs := hg.cells; have hfs := hg.frozens; have hlt := hg.lts; have hz := hg.size; (try simp at hz); (try (have hzl := Nat.lt_of_succ_le hz))) | (go_at_call 43; refine (implSizeOfVector_c _ _ _ _).mono ?_; rintro e w1 ⟨q, rfl, hq, hg⟩; have hcs := hg.cells; have hfs := hg.frozens; have hlt := hg.lts; have hz := hg.size; (try simp at hz); (try (have hzl := Nat.lt_of_succ_le hz))) | (refine wpList_widen _ _ _ _ rfl _ rfl Try.underlying38 (by rw [Try.underlying25]; rfl) rfl ?_; intro b1 n1 h1) | (go_at_call 31; refine (sameFloat_true _ _ (by simp only [*]) _).mono ?_; rintro e w1 ⟨m1, rfl, rfl⟩))
  go_ret
  exact ⟨rfl, Gro.below (by repeat (first | exact Gro.refl _ | apply Gro.drewN | apply Gro.drew | apply Gro.alloc | refine Gro.setCell ?_ (by first | (dsimp only; omega) | (dsimp only; simp; omega)) _ | refine Gro.trans ?_ (by assumption)))⟩

end Go.Proofs.Ytghcpeilbkgmaaa
