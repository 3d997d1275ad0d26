/- Contracts of Go functions: what each returns, as a class of words, whatever the world. -/
import Derived.Test.YtghcpeilbkgmaaaLaw
import Derived.Test.YtghcpeilbkgmaaaProg
import Derived.BigQuiet
import Derived.Deep.QuietTactic
import Derived.Deep.RegionHeld3
import Derived.Deep.DeepFit
import Derived.WalkSpells
import Derived.Lib.Hide
import Derived.WalkSmall
import Derived.Deep.DeepCutAuto
namespace Go.Proofs.Ytghcpeilbkgmaaa
open Go.RowKit Go.Fl

-- @has l00In
theorem l00In_true (n a b : Int) (h1 : a ≤ n) (h2 : n ≤ b) (w : World) : Calls Try.prog 44 #[.int .i64 n, .int .i64 a, .int .i64 b] w (RetV (.bool true) w) := by
  go_enter Try.func44, Try.ntmps44
  go_wp2
  go_ret
  exact ⟨0, rfl, rfl⟩
theorem l00In_false (n a b : Int) (h : n < a ∨ b < n) (w : World) : Calls Try.prog 44 #[.int .i64 n, .int .i64 a, .int .i64 b] w (RetV (.bool false) w) := by
  by_cases h1 : a ≤ n
  · have h2 : ¬ n ≤ b := by omega
    go_enter Try.func44, Try.ntmps44
    go_wp2
    go_ret
    exact ⟨0, rfl, rfl⟩
  · go_enter Try.func44, Try.ntmps44
    go_wp2
    go_ret
    exact ⟨0, rfl, rfl⟩

-- @has chk
def chk (n : Int) (l : List UInt8) : Int := l.foldl (fun n c => (809 * n + (c.toNat : Int) + 103) % 65003) n
theorem chk_bd (l : List UInt8) : ∀ n : Int, 0 ≤ n → n ≤ 65002 → 0 ≤ chk n l ∧ chk n l ≤ 65002 := by
  unfold chk
  induction l with
  | nil => intro n h0 h1; exact ⟨h0, h1⟩
  | cons c l ih => intro n h0 h1; exact ih _ (by dsimp only; omega) (by dsimp only; omega)
theorem chk_snoc (s : ByteArray) (k : Nat) (hk : k < s.size) (n : Int) : chk n (s.data.toList.take (k + 1)) = (809 * chk n (s.data.toList.take k) + (s[k].toNat : Int) + 103) % 65003 := by
  have e : s.data.toList.take (k + 1) = s.data.toList.take k ++ [s[k]] := by
    rw [List.take_succ_eq_append_getElem (by simpa using hk)]; rfl
  rw [e]; unfold chk; rw [List.foldl_append]; rfl
theorem byte_lt (c : UInt8) : (c.toNat : Int) < 256 := by have := c.toNat_lt; omega

-- @has l01Check
set_option maxHeartbeats 400000 in
theorem l01Check_c (n : Int) (s : ByteArray) (w : World) (h0 : 0 ≤ n) (h1 : n ≤ 65002) (hs : s.size ≤ 1048576) : Calls Try.prog 45 #[.int .i64 n, .string s] w (RetV (.int .i64 (chk n s.data.toList)) w) := by
  go_enter Try.func45, Try.ntmps45
  go_wp2
  go_loop [0, 5] (fun m i => ∃ k : Nat, k ≤ s.size ∧ i = .int .i64 k ∧ m = .int .i64 (chk n (s.data.toList.take k))) (fun _ i => s.size - (intOf i).toNat)
  case atStart => exact ⟨0, Nat.zero_le _, rfl, rfl⟩
  case round =>
    obtain ⟨k, hk, rfl, rfl⟩ := hrel
    obtain ⟨b0, b1⟩ := chk_bd (s.data.toList.take k) n h0 h1
    by_cases hlt : k < s.size
    · have HS := Lib.hid (chk_snoc s k hlt n)
      have hc := byte_lt s[k]
      generalize chk n (s.data.toList.take k) = m at *
      go_wp2
      go_round
      case rel => exact ⟨k + 1, by omega, by go_num, by rw [HS.out]⟩
      case measure => simp [intOf]; omega
    · go_wp2
      go_ret
      exact ⟨0, by rw [List.take_of_length_le (by simp; omega)]; rfl, rfl⟩

-- @has specCheckOf
theorem specCheckOf_in (n : Int) (s : ByteArray) (w : World) (h0 : 0 ≤ n) (h1 : n ≤ 65002) (hs : s.size ≤ 1048576) : Calls Try.prog 15 #[.int .i64 n, .string s] w (RetV (.tuple #[.int .i64 (chk n s.data.toList), .bool true]) w) := by
  go_enter Try.func15, Try.ntmps15
  go_wp2_with (first | (go_at_call 44; refine (l00In_true _ _ _ h0 h1 _).mono ?_; rintro e w1 ⟨m, rfl, rfl⟩) | (go_at_call 45; refine (l01Check_c _ _ _ h0 h1 hs).mono ?_; rintro e w1 ⟨m, rfl, rfl⟩))
  go_ret2
  exact ⟨_, rfl, rfl⟩
theorem specCheckOf_out (n : Int) (s : ByteArray) (w : World) (h : n < 0 ∨ 65002 < n) : Calls Try.prog 15 #[.int .i64 n, .string s] w (RetV (.tuple #[.int .i64 0, .bool false]) w) := by
  have H := Lib.hid h
  clear h
  go_enter Try.func15, Try.ntmps15
  go_wp2_with (go_at_call 44; refine (l00In_false _ _ _ H.out _).mono ?_; rintro e w1 ⟨m, rfl, rfl⟩)
  go_ret2
  exact ⟨_, rfl, rfl⟩

-- @has within
theorem within_true (n a b : Int) (h1 : a ≤ n) (h2 : n ≤ b) (w : World) : Calls Try.prog 46 #[.int .i64 n, .int .i64 a, .int .i64 b] w (RetV (.bool true) w) := by
  go_enter Try.func46, Try.ntmps46
  go_wp2
  go_ret
  exact ⟨0, rfl, rfl⟩
theorem within_false (n a b : Int) (h : n < a ∨ b < n) (w : World) : Calls Try.prog 46 #[.int .i64 n, .int .i64 a, .int .i64 b] w (RetV (.bool false) w) := by
  by_cases h1 : a ≤ n
  · have h2 : ¬ n ≤ b := by omega
    go_enter Try.func46, Try.ntmps46
    go_wp2
    go_ret
    exact ⟨0, rfl, rfl⟩
  · go_enter Try.func46, Try.ntmps46
    go_wp2
    go_ret
    exact ⟨0, rfl, rfl⟩

-- @has implcheck
set_option maxHeartbeats 400000 in
theorem implcheck_c (n : Int) (s : ByteArray) (w : World) (h0 : 0 ≤ n) (h1 : n ≤ 65002) (hs : s.size ≤ 1048576) : Calls Try.prog 47 #[.int .i64 n, .string s] w (RetV (.int .i64 (chk n s.data.toList)) w) := by
  go_enter Try.func47, Try.ntmps47
  go_wp2
  go_loop [0, 8] (fun m i => ∃ k : Nat, k ≤ s.size ∧ i = .int .i64 k ∧ m = .int .i64 (chk n (s.data.toList.take k))) (fun _ i => s.size - (intOf i).toNat)
  case atStart => exact ⟨0, Nat.zero_le _, rfl, rfl⟩
  case round =>
    obtain ⟨k, hk, rfl, rfl⟩ := hrel
    obtain ⟨b0, b1⟩ := chk_bd (s.data.toList.take k) n h0 h1
    by_cases hlt : k < s.size
    · have HS := Lib.hid (chk_snoc s k hlt n)
      have hc := byte_lt s[k]
      generalize chk n (s.data.toList.take k) = m at *
      go_wp2
      go_round
      case rel => exact ⟨k + 1, by omega, by go_num, by rw [HS.out]⟩
      case measure => simp [intOf]; omega
    · go_wp2
      go_ret
      exact ⟨0, by rw [List.take_of_length_le (by simp; omega)]; rfl, rfl⟩

-- @has implCheckOf
theorem implCheckOf_in (n : Int) (s : ByteArray) (w : World) (h0 : 0 ≤ n) (h1 : n ≤ 65002) (hs : s.size ≤ 1048576) : Calls Try.prog 16 #[.int .i64 n, .string s] w (RetV (.tuple #[.int .i64 (chk n s.data.toList), .bool true]) w) := by
  go_enter Try.func16, Try.ntmps16
  go_wp2_with (first | (go_at_call 46; refine (within_true _ _ _ h0 h1 _).mono ?_; rintro e w1 ⟨m, rfl, rfl⟩) | (go_at_call 47; refine (implcheck_c _ _ _ h0 h1 hs).mono ?_; rintro e w1 ⟨m, rfl, rfl⟩))
  go_ret2
  exact ⟨_, rfl, rfl⟩
theorem implCheckOf_out (n : Int) (s : ByteArray) (w : World) (h : n < 0 ∨ 65002 < n) : Calls Try.prog 16 #[.int .i64 n, .string s] w (RetV (.tuple #[.int .i64 0, .bool false]) w) := by
  have H := Lib.hid h
  clear h
  go_enter Try.func16, Try.ntmps16
  go_wp2_with (go_at_call 46; refine (within_false _ _ _ H.out _).mono ?_; rintro e w1 ⟨m, rfl, rfl⟩)
  go_ret2
  exact ⟨_, rfl, rfl⟩

-- @has FnExactCheckOf
theorem walk_FnExactCheckOf (n : Int) (_wn : (Lit.int .i64 n).wf = true) (s : ByteArray) (hs : s.size ≤ maxLen) (w : World) : Calls Try.prog 3 #[.int .i64 n, .string s] w fun e w' => e = .returned (.bool true) ∧ Below w.heap.size w w' := by
  unfold maxLen at hs
  by_cases h : s.size ≤ 1048576
  · have h' : ¬ (1048576 : Int) < (s.size : Int) := by omega
    by_cases hn : 0 ≤ n ∧ n ≤ 65002
    · obtain ⟨h0, h1⟩ := hn
      go_enter Try.func3, Try.ntmps3
      go_wp2_with (first | (go_at_call 15; refine (specCheckOf_in _ _ _ h0 h1 h).mono ?_; rintro e w1 ⟨n, rfl, rfl⟩) | (go_at_call 16; refine (implCheckOf_in _ _ _ h0 h1 h).mono ?_; rintro e w1 ⟨n, rfl, rfl⟩))
      go_ret
      exact ⟨rfl, below_drewN (Below.refl _ _) _⟩
    · have hn' : n < 0 ∨ 65002 < n := by omega
      have H := Lib.hid hn'
      clear hn hn'
      go_enter Try.func3, Try.ntmps3
      go_wp2_with (first | (go_at_call 15; refine (specCheckOf_out _ _ _ H.out).mono ?_; rintro e w1 ⟨n, rfl, rfl⟩) | (go_at_call 16; refine (implCheckOf_out _ _ _ H.out).mono ?_; rintro e w1 ⟨n, rfl, rfl⟩))
      go_ret
      exact ⟨rfl, below_drewN (Below.refl _ _) _⟩
  · have h' : (1048576 : Int) < (s.size : Int) := by omega
    go_enter Try.func3, Try.ntmps3
    go_wp2_with fail
    go_ret
    exact ⟨rfl, Below.refl _ _⟩

end Go.Proofs.Ytghcpeilbkgmaaa
