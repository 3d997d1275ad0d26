/- Contracts of Go functions: what each returns, as a class of words, whatever the world. -/
import Derived.Test.YtmbadnaclpboiaaLaw
import Derived.Test.YtmbadnaclpboiaaProg
import Derived.BigQuiet
import Derived.Deep.QuietTactic
import Derived.Deep.RegionHeld3
import Derived.Deep.DeepFit
import Derived.WalkSpells
import Derived.Lib.Hide
import Derived.WalkSmall
namespace Go.Proofs.Ytmbadnaclpboiaa
open Go.RowKit Go.Fl

-- @has l00In
theorem l00In_true (n a b : Int) (h1 : a ≤ n) (h2 : n ≤ b) (w : World) : Calls Try.prog 34 #[.int .i64 n, .int .i64 a, .int .i64 b] w (RetV (.bool true) w) := by
  go_enter Try.func34, Try.ntmps34
  go_wp2
  go_ret
  exact ⟨0, rfl, rfl⟩
theorem l00In_false (n a b : Int) (h : n < a ∨ b < n) (w : World) : Calls Try.prog 34 #[.int .i64 n, .int .i64 a, .int .i64 b] w (RetV (.bool false) w) := by
  by_cases h1 : a ≤ n
  · have h2 : ¬ n ≤ b := by omega
    go_enter Try.func34, Try.ntmps34
    go_wp2
    go_ret
    exact ⟨0, rfl, rfl⟩
  · go_enter Try.func34, Try.ntmps34
    go_wp2
    go_ret
    exact ⟨0, rfl, rfl⟩

-- @has Float32frombits
theorem f32from_run (n : Int) (w : World) : (callFunc 37 #[.int .u32 n]).run Try.prog w = .ok (.value (.float .f32 n.toNat)) w := by
  rw [run_callFunc_extern Try.func37 (e := Extern.MathFloatBits.float32frombits) (by kernel_rfl) (by kernel_rfl) (by kernel_rfl) (by kernel_rfl)]; rfl

-- @has l01From
theorem l01From_c (n : Int) (h1 : 0 ≤ n) (h2 : n ≤ 4294967295) (w : World) : Calls Try.prog 35 #[.int .i64 n] w (RetV (.float .f32 n.toNat) w) := by
  have hx := f32from_run
  go_enter Try.func35, Try.ntmps35
  go_wp2
  go_ret
  exact ⟨0, rfl, rfl⟩

-- @has specFromBits
theorem specFromBits_in (n : Int) (h1 : 0 ≤ n) (h2 : n ≤ 4294967295) (w : World) : Calls Try.prog 25 #[.int .i64 n] w (RetV (.tuple #[.float .f32 n.toNat, .bool true]) w) := by
  go_enter Try.func25, Try.ntmps25
  go_wp2_with (first | (go_at_call 34; refine (l00In_true _ _ _ h1 h2 _).mono ?_; rintro e w' ⟨m, rfl, rfl⟩) | (go_at_call 35; refine (l01From_c _ h1 h2 _).mono ?_; rintro e w' ⟨m, rfl, rfl⟩))
  go_ret2
  exact ⟨_, rfl, rfl⟩
theorem specFromBits_out (n : Int) (h : n < 0 ∨ 4294967295 < n) (w : World) : Calls Try.prog 25 #[.int .i64 n] w (RetV (.tuple #[.float .f32 0, .bool false]) w) := by
  have H := Lib.hid h
  clear h
  go_enter Try.func25, Try.ntmps25
  go_wp2_with (go_at_call 34; refine (l00In_false _ _ _ H.out _).mono ?_; rintro e w' ⟨m, rfl, rfl⟩)
  go_ret2
  exact ⟨_, rfl, rfl⟩

-- @has within
theorem within_true (n a b : Int) (h1 : a ≤ n) (h2 : n ≤ b) (w : World) : Calls Try.prog 36 #[.int .i64 n, .int .i64 a, .int .i64 b] w (RetV (.bool true) w) := by
  go_enter Try.func36, Try.ntmps36
  go_wp2
  go_ret
  exact ⟨0, rfl, rfl⟩
theorem within_false (n a b : Int) (h : n < a ∨ b < n) (w : World) : Calls Try.prog 36 #[.int .i64 n, .int .i64 a, .int .i64 b] w (RetV (.bool false) w) := by
  by_cases h1 : a ≤ n
  · have h2 : ¬ n ≤ b := by omega
    go_enter Try.func36, Try.ntmps36
    go_wp2
    go_ret
    exact ⟨0, rfl, rfl⟩
  · go_enter Try.func36, Try.ntmps36
    go_wp2
    go_ret
    exact ⟨0, rfl, rfl⟩

-- @has implFromBits
theorem implFromBits_in (n : Int) (h1 : 0 ≤ n) (h2 : n ≤ 4294967295) (w : World) : Calls Try.prog 26 #[.int .i64 n] w (RetV (.tuple #[.float .f32 n.toNat, .bool true]) w) := by
  have hx := f32from_run
  go_enter Try.func26, Try.ntmps26
  go_wp2_with (go_at_call 36; refine (within_true _ _ _ h1 h2 _).mono ?_; rintro e w' ⟨m, rfl, rfl⟩)
  go_ret2
  exact ⟨_, rfl, rfl⟩
theorem implFromBits_out (n : Int) (h : n < 0 ∨ 4294967295 < n) (w : World) : Calls Try.prog 26 #[.int .i64 n] w (RetV (.tuple #[.float .f32 0, .bool false]) w) := by
  have H := Lib.hid h
  clear h
  go_enter Try.func26, Try.ntmps26
  go_wp2_with (go_at_call 36; refine (within_false _ _ _ H.out _).mono ?_; rintro e w' ⟨m, rfl, rfl⟩)
  go_ret2
  exact ⟨_, rfl, rfl⟩

-- @has sameFloat
set_option maxHeartbeats 400000 in
theorem sameFloat_true (a b : Nat) (h : cl .f64 a = cl .f64 b) (w : World) :
    Calls Try.prog 13 #[.float .f64 a, .float .f64 b] w (RetV (.bool true) w) := by
  generalize hb : cl .f64 b = c at h
  rcases c with _ | c
  · go_enter Try.func13, Try.ntmps13
    go_wp2
    go_ret
    exact ⟨0, rfl, rfl⟩
  · have hs := ford_self h
    rcases h0 : ford .f64 (some c) (cl .f64 0) with _ | (_ | _ | _)
    all_goals
      go_enter Try.func13, Try.ntmps13
      go_wp2_with (refine wpList_farith _ _ _ _ _ _ rfl rfl _ _ _ rfl rfl rfl ?_; intro b1 n1 h1)
      go_ret
      first | exact ⟨0, rfl, rfl⟩ | exact ⟨_, rfl, rfl⟩

-- @has FnExactFromBits
theorem walk_FnExactFromBits (n : Int) (_w0 : (Lit.int .i64 n).wf = true) (w : World) : Calls Try.prog 10 #[.int .i64 n] w fun e w' => e = .returned (.bool true) ∧ Below w.heap.size w w' := by
  by_cases h1 : 0 ≤ n ∧ n ≤ 4294967295
  · obtain ⟨h1, h2⟩ := h1
    go_enter Try.func10, Try.ntmps10
    go_wp2_with (first | (refine wpList_widen _ _ _ _ rfl _ rfl Try.underlying23 (by rw [Try.underlying24]; rfl) rfl ?_; intro b1 n1 hb1) | (go_at_call 25; refine (specFromBits_in _ h1 h2 _).mono ?_; rintro e w' ⟨m, rfl, rfl⟩) | (go_at_call 26; refine (implFromBits_in _ h1 h2 _).mono ?_; rintro e w' ⟨m, rfl, rfl⟩) | (go_at_call 13; refine (sameFloat_true _ _ (by rw [‹cl .f64 _ = _›, ‹cl .f64 _ = _›]) _).mono ?_; rintro e w' ⟨m, rfl, rfl⟩))
    go_ret
    exact ⟨rfl, below_drewN (Below.refl _ _) _⟩
  · have h2 : n < 0 ∨ 4294967295 < n := by omega
    have H := Lib.hid h2
    clear h1 h2
    go_enter Try.func10, Try.ntmps10
    go_wp2_with (first | (refine wpList_widen _ _ _ _ rfl _ rfl Try.underlying23 (by rw [Try.underlying24]; rfl) rfl ?_; intro b1 n1 hb1) | (go_at_call 25; refine (specFromBits_out _ H.out _).mono ?_; rintro e w' ⟨m, rfl, rfl⟩) | (go_at_call 26; refine (implFromBits_out _ H.out _).mono ?_; rintro e w' ⟨m, rfl, rfl⟩) | (go_at_call 13; refine (sameFloat_true _ _ (by simp [*]) _).mono ?_; rintro e w' ⟨m, rfl, rfl⟩))
    go_ret
    exact ⟨rfl, below_drewN (Below.refl _ _) _⟩

end Go.Proofs.Ytmbadnaclpboiaa
