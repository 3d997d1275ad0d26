/- Contracts of Go functions: what each returns, as a class of words, whatever the world. -/
import Derived.Test.YtmbadnaclpboiaaLaw
import Derived.Test.YtmbadnaclpboiaaProg
import Derived.BigQuiet
import Derived.Deep.QuietTactic
import Derived.Deep.RegionHeld3
import Derived.Deep.DeepFit
import Derived.WalkSpells
import Derived.Lib.Hide
import Derived.WalkSmall
namespace Go.Proofs.Ytmbadnaclpboiaa
open Go.RowKit Go.Fl

-- @has toVector
theorem toVector_c (x y z : Nat) (w : World) : Calls Try.prog 23 #[.agg #[.float .f32 x, .float .f32 y, .float .f32 z]] w fun e w' => e = .returned (.agg #[.float .f32 x, .float .f32 y, .float .f32 z]) ∧ Gro w w' := by
  go_enter Try.func23, Try.ntmps23
  go_wp2
  exact bodyPost_ret (v := .agg #[.float .f32 x, .float .f32 y, .float .f32 z]) (by simp [results, Try.results23, go_sem]) rfl ⟨rfl, (((Gro.refl _).alloc _).alloc _).alloc _⟩

-- @has implInnerOf
def innerC (x y z a b c : Option Nat) : Option Nat := fop .add .f32 (fop .add .f32 (fop .mul .f32 x a) (fop .mul .f32 y b)) (fop .mul .f32 z c)
theorem implInnerOf_c (x y z a b c : Nat) (w : World) : Calls Try.prog 24 #[.agg #[.float .f32 x, .float .f32 y, .float .f32 z], .agg #[.float .f32 a, .float .f32 b, .float .f32 c]] w (RetG .f32 (innerC (cl .f32 x) (cl .f32 y) (cl .f32 z) (cl .f32 a) (cl .f32 b) (cl .f32 c)) w) := by
  go_enter Try.func24, Try.ntmps24
  go_wp2_with (refine wpList_farith _ _ _ _ _ _ rfl rfl _ _ _ rfl rfl rfl ?_; intro b1 n1 h1)
  go_ret
  exact ⟨_, rfl, by simp only [*, innerC], (((Gro.refl _).alloc _).alloc _).drewN _⟩

-- @has specInnerOf
theorem l01VInner_c (x y z a b c : Nat) (w : World) : Calls Try.prog 33 #[.agg #[.float .f32 x, .float .f32 y, .float .f32 z], .agg #[.float .f32 a, .float .f32 b, .float .f32 c]] w (RetG .f32 (innerC (cl .f32 x) (cl .f32 y) (cl .f32 z) (cl .f32 a) (cl .f32 b) (cl .f32 c)) w) := by
  go_enter Try.func33, Try.ntmps33
  go_wp2_with (refine wpList_farith _ _ _ _ _ _ rfl rfl _ _ _ rfl rfl rfl ?_; intro b1 n1 h1)
  go_ret
  exact ⟨_, rfl, by simp only [*, innerC], (((Gro.refl _).alloc _).alloc _).drewN _⟩
theorem specInnerOf_c (x y z a b c : Nat) (w : World) : Calls Try.prog 22 #[.agg #[.float .f32 x, .float .f32 y, .float .f32 z], .agg #[.float .f32 a, .float .f32 b, .float .f32 c]] w (RetG .f32 (innerC (cl .f32 x) (cl .f32 y) (cl .f32 z) (cl .f32 a) (cl .f32 b) (cl .f32 c)) w) := by
  go_enter Try.func22, Try.ntmps22
  go_wp2_with (go_at_call 33; refine (l01VInner_c _ _ _ _ _ _ _).mono ?_; rintro e w' ⟨r, rfl, hr, hg⟩)
  go_ret
  exact ⟨_, rfl, hr, (((Gro.refl _).alloc _).alloc _).trans hg⟩

-- @has sameFloat
set_option maxHeartbeats 400000 in
theorem sameFloat_true (a b : Nat) (h : cl .f64 a = cl .f64 b) (w : World) :
    Calls Try.prog 13 #[.float .f64 a, .float .f64 b] w (RetV (.bool true) w) := by
  generalize hb : cl .f64 b = c at h
  rcases c with _ | c
  · go_enter Try.func13, Try.ntmps13
    go_wp2
    go_ret
    exact ⟨0, rfl, rfl⟩
  · have hs := ford_self h
    rcases h0 : ford .f64 (some c) (cl .f64 0) with _ | (_ | _ | _)
    all_goals
      go_enter Try.func13, Try.ntmps13
      go_wp2_with (refine wpList_farith _ _ _ _ _ _ rfl rfl _ _ _ rfl rfl rfl ?_; intro b1 n1 h1)
      go_ret
      first | exact ⟨0, rfl, rfl⟩ | exact ⟨_, rfl, rfl⟩

-- @has FnExactInnerOf
set_option maxHeartbeats 1000000 in
theorem walk_FnExactInnerOf (x y z : Nat) (_hx : x < 2 ^ 32) (_hy : y < 2 ^ 32) (_hz : z < 2 ^ 32) (a b c : Nat) (_ha : a < 2 ^ 32) (_hb : b < 2 ^ 32) (_hc : c < 2 ^ 32) (w : World) :
    Calls Try.prog 9 #[.agg #[.float .f32 x, .float .f32 y, .float .f32 z], .agg #[.float .f32 a, .float .f32 b, .float .f32 c]] w fun e w' => e = .returned (.bool true) ∧ Below w.heap.size w w' := by
  go_enter Try.func9, Try.ntmps9
  go_wp2_with fail
  go_region_held3 (fun w' => w'.cell? ⟨w.heap.size, 0, none⟩ = some (.float .f32 x) ∧ w'.cell? ⟨w.heap.size, 1, none⟩ = some (.float .f32 y) ∧ w'.cell? ⟨w.heap.size, 2, none⟩ = some (.float .f32 z) ∧ w'.cell? ⟨w.heap.size + 1, 0, none⟩ = some (.float .f32 a) ∧ w'.cell? ⟨w.heap.size + 1, 1, none⟩ = some (.float .f32 b) ∧ w'.cell? ⟨w.heap.size + 1, 2, none⟩ = some (.float .f32 c))
    (first | (simp [*]; done) | (refine ⟨?_, ?_, ?_, ?_, ?_, ?_⟩ <;> (refine Gro.cell (by assumption) ?_; simp [*])))
    (first | (go_at_call 23; refine (toVector_c _ _ _ _).mono ?_; rintro e w1 ⟨rfl, hg⟩) | (go_at_call 22; refine (specInnerOf_c _ _ _ _ _ _ _).mono ?_; rintro e w1 ⟨r, rfl, hr, hg⟩))
  go_wp2_with fail
  go_region_held3 (fun w' => w'.cell? ⟨w.heap.size, 0, none⟩ = some (.float .f32 x) ∧ w'.cell? ⟨w.heap.size, 1, none⟩ = some (.float .f32 y) ∧ w'.cell? ⟨w.heap.size, 2, none⟩ = some (.float .f32 z) ∧ w'.cell? ⟨w.heap.size + 1, 0, none⟩ = some (.float .f32 a) ∧ w'.cell? ⟨w.heap.size + 1, 1, none⟩ = some (.float .f32 b) ∧ w'.cell? ⟨w.heap.size + 1, 2, none⟩ = some (.float .f32 c))
    (first | (simp [*]; done) | (refine ⟨?_, ?_, ?_, ?_, ?_, ?_⟩ <;> (refine Gro.cell (by assumption) ?_; simp [*])))
    (first | (go_at_call 23; refine (toVector_c _ _ _ _).mono ?_; rintro e w1 ⟨rfl, hg⟩) | (go_at_call 24; refine (implInnerOf_c _ _ _ _ _ _ _).mono ?_; rintro e w1 ⟨r, rfl, hr, hg⟩))
  go_wp2_with (first | (refine wpList_widen _ _ _ _ rfl _ rfl Try.underlying23 (by rw [Try.underlying24]; rfl) rfl ?_; intro b1 n1 h1) | (go_at_call 13; refine (sameFloat_true _ _ (by simp only [*]) _).mono ?_; rintro e w1 ⟨m1, rfl, rfl⟩))
  go_ret
  exact ⟨rfl, Gro.below (by repeat (first | exact Gro.refl _ | apply Gro.drewN | apply Gro.drew | apply Gro.alloc | refine Gro.trans ?_ (by assumption)))⟩

end Go.Proofs.Ytmbadnaclpboiaa
