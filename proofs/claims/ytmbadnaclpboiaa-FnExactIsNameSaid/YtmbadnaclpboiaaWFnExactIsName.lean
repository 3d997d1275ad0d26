/- Contracts of Go functions: what each returns, as a class of words, whatever the world. -/
import Derived.Test.YtmbadnaclpboiaaLaw
import Derived.Test.YtmbadnaclpboiaaProg
import Derived.BigQuiet
import Derived.Deep.QuietTactic
import Derived.Deep.RegionHeld3
import Derived.Deep.DeepFit
import Derived.WalkSpells
import Derived.Lib.Hide
import Derived.WalkSmall
import Derived.Deep.DeepCutAuto
namespace Go.Proofs.Ytmbadnaclpboiaa
open Go.RowKit Go.Fl

-- @has nameB
def goodB (c : UInt8) : Bool := decide (97 ≤ c.toNat) && decide (c.toNat ≤ 122)
def nameB (s : ByteArray) : Bool := s.data.toList.all goodB && (decide (1 ≤ s.size) && decide (s.size ≤ 8))
theorem goodB_of {c : UInt8} (h1 : ¬ (c.toNat : Int) < 97) (h2 : ¬ 122 < (c.toNat : Int)) : goodB c = true := by
  unfold goodB
  simp; omega
theorem nameB_bad (s : ByteArray) (k : Nat) (hk : k < s.size) (h : (s[k].toNat : Int) < 97 ∨ 122 < (s[k].toNat : Int)) : nameB s = false := by
  have hg : goodB s[k] = false := by
    unfold goodB
    rcases h with h | h
    · rw [decide_eq_false (by omega)]; rfl
    · rw [decide_eq_false (p := s[k].toNat ≤ 122) (by omega), Bool.and_false]
  have hmem : s[k] ∈ s.data.toList := by
    show s.data[k] ∈ s.data.toList
    exact Array.mem_toList_iff.2 (Array.getElem_mem _)
  have : s.data.toList.all goodB = false := by
    rw [List.all_eq_false]; exact ⟨_, hmem, by simp [hg]⟩
  unfold nameB; rw [this]; rfl
theorem nameB_all (s : ByteArray) (h : ∀ j (hj : j < s.size), goodB s[j] = true) : nameB s = (decide (1 ≤ s.size) && decide (s.size ≤ 8)) := by
  have : s.data.toList.all goodB = true := by
    rw [List.all_eq_true]
    intro c hc
    obtain ⟨i, hi, rfl⟩ := List.getElem_of_mem hc
    have := h i (by simpa using hi)
    rw [Array.getElem_toList]
    exact this
  unfold nameB; rw [this]; rfl

-- @has specIsName
set_option maxHeartbeats 400000 in
theorem specIsName_c (s : ByteArray) (w : World) (hs : s.size ≤ 1048576) : Calls Try.prog 18 #[.string s] w (RetV (.bool (nameB s)) w) := by
  go_enter Try.func18, Try.ntmps18
  go_wp2
  go_loop [3] (fun i => ∃ k : Nat, k ≤ s.size ∧ i = .int .i64 k ∧ ∀ j (hj : j < s.size), j < k → goodB s[j] = true) (fun i => s.size - (intOf i).toNat)
  case atStart => exact ⟨0, Nat.zero_le _, rfl, fun _ _ h => absurd h (Nat.not_lt_zero _)⟩
  case round =>
    obtain ⟨k, hk, rfl, hrel⟩ := hrel
    have HR := Lib.hid hrel
    clear hrel
    by_cases hlt : k < s.size
    · by_cases h1 : (s[k].toNat : Int) < 97
      · have HF := Lib.hid (nameB_bad s k hlt (Or.inl h1))
        go_wp2
        go_ret
        exact ⟨0, by rw [HF.out]; rfl, rfl⟩
      · by_cases h2 : 122 < (s[k].toNat : Int)
        · have HF := Lib.hid (nameB_bad s k hlt (Or.inr h2))
          go_wp2
          go_ret
          exact ⟨0, by rw [HF.out]; rfl, rfl⟩
        · have HG := Lib.hid (goodB_of h1 h2)
          go_wp2
          go_round
          case rel => exact ⟨k + 1, by omega, by go_num, fun j hj hjk => by
            rcases Nat.lt_or_eq_of_le (Nat.le_of_lt_succ hjk) with h | h
            · exact HR.out j hj h
            · subst h; exact HG.out⟩
          case measure => simp [intOf]; omega
    · have HA := Lib.hid (nameB_all s (fun j hj => HR.out j hj (by omega)))
      by_cases h1 : 1 ≤ s.size
      · have h1' : (1 : Int) ≤ (s.size : Int) := by omega
        by_cases h8 : s.size ≤ 8
        · have h8' : (s.size : Int) ≤ 8 := by omega
          go_wp2
          go_ret
          exact ⟨0, by rw [HA.out]; simp [h1, h8], rfl⟩
        · have h8' : ¬ (s.size : Int) ≤ 8 := by omega
          go_wp2
          go_ret
          exact ⟨0, by rw [HA.out]; simp [h8], rfl⟩
      · have h1' : ¬ (1 : Int) ≤ (s.size : Int) := by omega
        go_wp2
        go_ret
        exact ⟨0, by rw [HA.out]; simp [h1], rfl⟩

-- @has implIsName
set_option maxHeartbeats 400000 in
theorem implIsName_c (s : ByteArray) (w : World) (hs : s.size ≤ 1048576) : Calls Try.prog 19 #[.string s] w (RetV (.bool (nameB s)) w) := by
  go_enter Try.func19, Try.ntmps19
  go_wp2
  go_loop [6] (fun i => ∃ k : Nat, k ≤ s.size ∧ i = .int .i64 k ∧ ∀ j (hj : j < s.size), j < k → goodB s[j] = true) (fun i => s.size - (intOf i).toNat)
  case atStart => exact ⟨0, Nat.zero_le _, rfl, fun _ _ h => absurd h (Nat.not_lt_zero _)⟩
  case round =>
    obtain ⟨k, hk, rfl, hrel⟩ := hrel
    have HR := Lib.hid hrel
    clear hrel
    by_cases hlt : k < s.size
    · by_cases h1 : (s[k].toNat : Int) < 97
      · have HF := Lib.hid (nameB_bad s k hlt (Or.inl h1))
        go_wp2
        go_ret
        exact ⟨0, by rw [HF.out]; rfl, rfl⟩
      · by_cases h2 : 122 < (s[k].toNat : Int)
        · have HF := Lib.hid (nameB_bad s k hlt (Or.inr h2))
          go_wp2
          go_ret
          exact ⟨0, by rw [HF.out]; rfl, rfl⟩
        · have HG := Lib.hid (goodB_of h1 h2)
          go_wp2
          go_round
          case rel => exact ⟨k + 1, by omega, by go_num, fun j hj hjk => by
            rcases Nat.lt_or_eq_of_le (Nat.le_of_lt_succ hjk) with h | h
            · exact HR.out j hj h
            · subst h; exact HG.out⟩
          case measure => simp [intOf]; omega
    · have HA := Lib.hid (nameB_all s (fun j hj => HR.out j hj (by omega)))
      by_cases h1 : 1 ≤ s.size
      · have h1' : (1 : Int) ≤ (s.size : Int) := by omega
        by_cases h8 : s.size ≤ 8
        · have h8' : (s.size : Int) ≤ 8 := by omega
          go_wp2
          go_ret
          exact ⟨0, by rw [HA.out]; simp [h1, h8], rfl⟩
        · have h8' : ¬ (s.size : Int) ≤ 8 := by omega
          go_wp2
          go_ret
          exact ⟨0, by rw [HA.out]; simp [h8], rfl⟩
      · have h1' : ¬ (1 : Int) ≤ (s.size : Int) := by omega
        go_wp2
        go_ret
        exact ⟨0, by rw [HA.out]; simp [h1], rfl⟩

-- @has FnExactIsName
theorem walk_FnExactIsName (s : ByteArray) (hs : s.size ≤ maxLen) (w : World) : Calls Try.prog 7 #[.string s] w fun e w' => e = .returned (.bool true) ∧ Below w.heap.size w w' := by
  unfold maxLen at hs
  by_cases h : s.size ≤ 1048576
  · have h' : ¬ (1048576 : Int) < (s.size : Int) := by omega
    cases hf : nameB s
    all_goals
      go_enter Try.func7, Try.ntmps7
      go_wp2_with (first | (go_at_call 18; refine (specIsName_c _ _ h).mono ?_; rintro e w1 ⟨n, rfl, rfl⟩) | (go_at_call 19; refine (implIsName_c _ _ h).mono ?_; rintro e w1 ⟨n, rfl, rfl⟩))
      go_ret
      exact ⟨rfl, below_drewN (Below.refl _ _) _⟩
  · have h' : (1048576 : Int) < (s.size : Int) := by omega
    go_enter Try.func7, Try.ntmps7
    go_wp2_with fail
    go_ret
    exact ⟨rfl, Below.refl _ _⟩

end Go.Proofs.Ytmbadnaclpboiaa
