/- Rounding: the word nearest to a number lies on the same side of every word as the number itself; a number that the format has is kept. -/
import Ieee.Arith
namespace Go.Fl
open Ieee

/-- A rung's magnitude in units of the format's least place. -/
def val (f : Format) (r : Nat) : Nat := if r < f.binade then r else (f.binade + r % f.binade) * 2 ^ (r / f.binade - 1)

/-- The rung of the nearest word. -/
def nearRung (f : Format) (m : Nat) (p : Int) : Nat :=
  if m = 0 then 0 else
  let last := max (p + m.log2 - f.fractionBits) f.leastPlace
  min ((last - f.leastPlace).toNat * f.binade + Toward.even.cut false (m <<< (p - last).toNat) (last - p).toNat) f.infRung

theorem cut_neg (s : Bool) (n d : Nat) : Toward.even.cut s n d = Toward.even.cut false n d := rfl

theorem nearest_eq (f : Format) (s : Bool) (m : Nat) (p : Int) : f.nearest s m p = f.word s (nearRung f m p) := by
  unfold Format.nearest nearRung
  by_cases h : m = 0
  · simp [h]
  · simp only [h, if_false]; rfl

/-- A rung taken apart: its exponent field's place and its significand. -/
theorem rung_parts (f : Format) (r : Nat) : ∃ E M, r = E * f.binade + M ∧ val f r = M * 2 ^ E ∧ M < 2 * f.binade ∧ (0 < E → f.binade ≤ M) := by
  have hB : 0 < f.binade := Nat.two_pow_pos _
  unfold val
  split
  · rename_i h; exact ⟨0, r, by omega, by simp, by omega, fun h => absurd h (by omega)⟩
  · rename_i h
    have hq : 1 ≤ r / f.binade := (Nat.le_div_iff_mul_le hB).2 (by omega)
    have hm := Nat.mod_lt r hB
    refine ⟨r / f.binade - 1, f.binade + r % f.binade, ?_, rfl, by omega, fun _ => by omega⟩
    have := Nat.div_add_mod r f.binade
    rw [Nat.sub_mul, Nat.mul_comm (r / f.binade)]
    have h2 : f.binade * 1 ≤ f.binade * (r / f.binade) := Nat.mul_le_mul_left _ hq
    omega

/-- What the cut is, to half a unit. -/
theorem cut_near (n d : Nat) : 2 * n ≤ (2 * Toward.even.cut false n d + 1) * 2 ^ d ∧ 2 * Toward.even.cut false n d * 2 ^ d ≤ 2 * n + 2 ^ d := by
  unfold Toward.cut
  simp only [Nat.shiftLeft_eq, Nat.one_mul]
  by_cases hd : d ≤ n.log2 + 2
  · rw [Nat.min_eq_left hd]
    have hdm := Nat.div_add_mod n (2 ^ d)
    have hlt := Nat.mod_lt n (Nat.two_pow_pos d)
    generalize 2 ^ d = g at *
    generalize hlo : n / g = lo at *
    generalize hre : n % g = re at *
    subst hdm
    cases hb : (decide (g < 2 * re) || g == 2 * re && lo % 2 == 1)
    · simp only [Bool.toNat_false, Nat.add_zero]
      simp at hb
      rw [Nat.add_mul, Nat.one_mul, Nat.mul_assoc, Nat.mul_comm lo g]
      omega
    · simp only [Bool.toNat_true]
      simp at hb
      have h1 : g ≤ 2 * re := by omega
      rw [show (2 * (lo + 1) + 1) * g = 2 * (g * lo) + 3 * g by rw [Nat.mul_comm g lo]; simp [Nat.add_mul, Nat.mul_add, Nat.mul_assoc]; omega,
        show 2 * (lo + 1) * g = 2 * (g * lo) + 2 * g by rw [Nat.mul_comm g lo]; simp [Nat.add_mul, Nat.mul_add, Nat.mul_assoc]]
      omega
  · rw [Nat.min_eq_right (by omega)]
    have hn : n < 2 ^ (n.log2 + 1) := Nat.lt_log2_self
    have h4 : 2 ^ (n.log2 + 2) = 2 * 2 ^ (n.log2 + 1) := by rw [Nat.pow_succ, Nat.mul_comm]
    have hge : 2 ^ (n.log2 + 2) ≤ 2 ^ d := Nat.pow_le_pow_right (by decide) (by omega)
    have hlow : n / 2 ^ (n.log2 + 2) = 0 := Nat.div_eq_of_lt (by omega)
    have hmod : n % 2 ^ (n.log2 + 2) = n := Nat.mod_eq_of_lt (by omega)
    rw [hlow, hmod]
    have hb : (decide (2 ^ (n.log2 + 2) < 2 * n) || 2 ^ (n.log2 + 2) == 2 * n && 0 % 2 == 1) = false := by
      simp; omega
    simp only [hb, Bool.toNat_false]
    omega

theorem cut_le {n d M : Nat} (h : n ≤ M * 2 ^ d) : Toward.even.cut false n d ≤ M := by
  have h2 := (cut_near n d).2
  have hp := Nat.two_pow_pos d
  generalize Toward.even.cut false n d = c at *
  generalize 2 ^ d = g at *
  rcases Nat.lt_or_ge M c with hlt | hge
  · exfalso
    have : (M + 1) * g ≤ c * g := Nat.mul_le_mul_right _ hlt
    rw [Nat.add_mul, Nat.one_mul] at this
    rw [Nat.mul_assoc] at h2
    omega
  · exact hge
theorem le_cut {n d M : Nat} (h : M * 2 ^ d ≤ n) : M ≤ Toward.even.cut false n d := by
  have h1 := (cut_near n d).1
  have hp := Nat.two_pow_pos d
  generalize Toward.even.cut false n d = c at *
  generalize 2 ^ d = g at *
  rcases Nat.lt_or_ge c M with hlt | hge
  · exfalso
    have : (c + 1) * g ≤ M * g := Nat.mul_le_mul_right _ hlt
    rw [Nat.add_mul, Nat.one_mul] at this
    rw [Nat.add_mul, Nat.one_mul, Nat.mul_assoc] at h1
    omega
  · exact hge

/-- The kept digits: how they stand to the number, and the number's own bounds, at the place that is kept. -/
theorem last_bounds (f : Format) (m : Nat) (p : Int) (hm : m ≠ 0) :
    ∃ (EL a d : Nat), (max (p + m.log2 - f.fractionBits) f.leastPlace) = f.leastPlace + EL ∧ (p - (f.leastPlace + EL)).toNat = a ∧ ((f.leastPlace + EL) - p).toNat = d ∧
      p + d = f.leastPlace + EL + a ∧ m * 2 ^ a < 2 * f.binade * 2 ^ d ∧ (0 < EL → f.binade * 2 ^ d ≤ m * 2 ^ a) := by
  refine ⟨(max (p + m.log2 - f.fractionBits) f.leastPlace - f.leastPlace).toNat, _, _, by omega, rfl, rfl, by omega, ?_, ?_⟩
  · generalize hE : (max (p + m.log2 - f.fractionBits) f.leastPlace - f.leastPlace).toNat = EL
    generalize ha : (p - (f.leastPlace + EL)).toNat = a
    generalize hd : ((f.leastPlace + EL) - p).toNat = d
    have hl : m < 2 ^ (m.log2 + 1) := Nat.lt_log2_self
    have e1 : m * 2 ^ a < 2 ^ (m.log2 + 1 + a) := by rw [Nat.pow_add]; exact (Nat.mul_lt_mul_right (Nat.two_pow_pos a)).2 hl
    have e2 : 2 * f.binade * 2 ^ d = 2 ^ (f.fractionBits + 1 + d) := by unfold Format.binade; rw [Nat.pow_add, Nat.pow_succ, Nat.mul_comm 2]
    rw [e2]
    exact Nat.lt_of_lt_of_le e1 (Nat.pow_le_pow_right (by decide) (by omega))
  · generalize hE : (max (p + m.log2 - f.fractionBits) f.leastPlace - f.leastPlace).toNat = EL
    generalize ha : (p - (f.leastPlace + EL)).toNat = a
    generalize hd : ((f.leastPlace + EL) - p).toNat = d
    intro hpos
    have hl : 2 ^ m.log2 ≤ m := Nat.log2_self_le hm
    have e1 : 2 ^ (m.log2 + a) ≤ m * 2 ^ a := by rw [Nat.pow_add]; exact Nat.mul_le_mul_right _ hl
    have e2 : f.binade * 2 ^ d = 2 ^ (f.fractionBits + d) := by unfold Format.binade; rw [Nat.pow_add]
    rw [e2]
    exact Nat.le_trans (Nat.pow_le_pow_right (by decide) (by omega)) e1

theorem near_le (f : Format) {m r : Nat} {p base : Int} (h1 : base ≤ p) (h2 : base ≤ f.leastPlace)
    (h : m * 2 ^ (p - base).toNat ≤ val f r * 2 ^ (f.leastPlace - base).toNat) : nearRung f m p ≤ r := by
  by_cases hm : m = 0
  · simp [nearRung, hm]
  obtain ⟨EL, a, d, hL, ha, hd, hpd, hlt, hge⟩ := last_bounds f m p hm
  obtain ⟨E, M, hr, hv, hM, hE⟩ := rung_parts f r
  unfold nearRung
  simp only [hm, if_false, hL]
  rw [show (f.leastPlace + (EL : Int) - f.leastPlace).toNat = EL by omega, ha, hd, Nat.shiftLeft_eq]
  refine Nat.le_trans (Nat.min_le_left _ _) ?_
  rw [hv] at h
  generalize hx : (p - base).toNat = x at h
  generalize hy : (f.leastPlace - base).toNat = y at h
  -- places: x + d = y + EL + a
  have hxy : x + d = y + EL + a := by omega
  -- the number against the rung, at the place that is kept
  have hcmp : m * 2 ^ a * 2 ^ (x + d) ≤ M * 2 ^ (E + y + a + d) := by
    have := Nat.mul_le_mul_right (2 ^ (a + d)) h
    calc m * 2 ^ a * 2 ^ (x + d) = m * 2 ^ x * 2 ^ (a + d) := by simp only [Nat.pow_add]; simp only [Nat.mul_assoc, Nat.mul_comm, Nat.mul_left_comm]
      _ ≤ M * 2 ^ E * 2 ^ y * 2 ^ (a + d) := this
      _ = M * 2 ^ (E + y + a + d) := by simp only [Nat.pow_add]; simp only [Nat.mul_assoc]
  have hB : 0 < f.binade := Nat.two_pow_pos _
  rcases Nat.lt_trichotomy EL E with hlt' | heq | hgt
  · -- below: the kept digits are at most two binades
    have hk : Toward.even.cut false (m * 2 ^ a) d ≤ 2 * f.binade := cut_le (Nat.le_of_lt hlt)
    have hEM := hE (by omega)
    have : (EL + 1) * f.binade ≤ E * f.binade := Nat.mul_le_mul_right _ hlt'
    rw [Nat.add_mul, Nat.one_mul] at this
    omega
  · subst heq
    have : m * 2 ^ a ≤ M * 2 ^ d := by
      refine Nat.le_of_mul_le_mul_right ?_ (Nat.two_pow_pos (x + d))
      refine Nat.le_trans hcmp (Nat.le_of_eq ?_)
      rw [Nat.mul_assoc, ← Nat.pow_add]; congr 2; omega
    have := cut_le this
    omega
  · exfalso
    have hg := hge (by omega)
    have h3 : f.binade * 2 ^ d * 2 ^ (x + d) ≤ M * 2 ^ (E + y + a + d) := Nat.le_trans (Nat.mul_le_mul_right _ hg) hcmp
    have h4 : M * 2 ^ (E + y + a + d) < 2 * f.binade * 2 ^ (E + y + a + d) := (Nat.mul_lt_mul_right (Nat.two_pow_pos _)).2 hM
    have h5 : 2 * f.binade * 2 ^ (E + y + a + d) ≤ f.binade * 2 ^ d * 2 ^ (x + d) := by
      rw [Nat.mul_assoc f.binade, ← Nat.pow_add, Nat.mul_comm 2, Nat.mul_assoc, ← Nat.pow_succ']
      exact Nat.mul_le_mul_left _ (Nat.pow_le_pow_right (by decide) (by omega))
    omega

theorem le_near (f : Format) {m r : Nat} {p base : Int} (h1 : base ≤ p) (h2 : base ≤ f.leastPlace) (hinf : r ≤ f.infRung)
    (h : val f r * 2 ^ (f.leastPlace - base).toNat ≤ m * 2 ^ (p - base).toNat) : r ≤ nearRung f m p := by
  by_cases hm : m = 0
  · subst hm
    simp only [Nat.zero_mul, Nat.le_zero_eq, Nat.mul_eq_zero] at h
    have hv : val f r = 0 := h.resolve_right (by have := Nat.two_pow_pos (f.leastPlace - base).toNat; omega)
    obtain ⟨E, M, hr, hv', hM, hE⟩ := rung_parts f r
    have hM0 : M = 0 := by
      rw [hv'] at hv
      rcases Nat.mul_eq_zero.1 hv with h | h
      · exact h
      · have := Nat.two_pow_pos E; omega
    have hB : 0 < f.binade := Nat.two_pow_pos _
    have : E = 0 := by
      rcases Nat.eq_zero_or_pos E with h | h
      · exact h
      · have := hE h; omega
    subst this; subst hM0; omega
  obtain ⟨EL, a, d, hL, ha, hd, hpd, hlt, hge⟩ := last_bounds f m p hm
  obtain ⟨E, M, hr, hv, hM, hE⟩ := rung_parts f r
  unfold nearRung
  simp only [hm, if_false, hL]
  rw [show (f.leastPlace + (EL : Int) - f.leastPlace).toNat = EL by omega, ha, hd, Nat.shiftLeft_eq]
  refine Nat.le_min.2 ⟨?_, hinf⟩
  rw [hv] at h
  generalize hx : (p - base).toNat = x at h
  generalize hy : (f.leastPlace - base).toNat = y at h
  have hxy : x + d = y + EL + a := by omega
  have hcmp : M * 2 ^ (E + y + a + d) ≤ m * 2 ^ a * 2 ^ (x + d) := by
    have := Nat.mul_le_mul_right (2 ^ (a + d)) h
    calc M * 2 ^ (E + y + a + d) = M * 2 ^ E * 2 ^ y * 2 ^ (a + d) := by simp only [Nat.pow_add]; simp only [Nat.mul_assoc]
      _ ≤ m * 2 ^ x * 2 ^ (a + d) := this
      _ = m * 2 ^ a * 2 ^ (x + d) := by simp only [Nat.pow_add]; simp only [Nat.mul_assoc, Nat.mul_comm, Nat.mul_left_comm]
  have hB : 0 < f.binade := Nat.two_pow_pos _
  rcases Nat.lt_trichotomy EL E with hlt' | heq | hgt
  · exfalso
    have hEM := hE (by omega)
    have h3 : f.binade * 2 ^ (E + y + a + d) ≤ m * 2 ^ a * 2 ^ (x + d) := Nat.le_trans (Nat.mul_le_mul_right _ hEM) hcmp
    have h4 : m * 2 ^ a * 2 ^ (x + d) < 2 * f.binade * 2 ^ d * 2 ^ (x + d) := (Nat.mul_lt_mul_right (Nat.two_pow_pos _)).2 hlt
    have h5 : 2 * f.binade * 2 ^ d * 2 ^ (x + d) ≤ f.binade * 2 ^ (E + y + a + d) := by
      rw [Nat.mul_comm 2, Nat.mul_assoc, Nat.mul_assoc, ← Nat.pow_add, ← Nat.pow_succ']
      exact Nat.mul_le_mul_left _ (Nat.pow_le_pow_right (by decide) (by omega))
    omega
  · subst heq
    have : M * 2 ^ d ≤ m * 2 ^ a := by
      refine Nat.le_of_mul_le_mul_right ?_ (Nat.two_pow_pos (x + d))
      refine Nat.le_trans (Nat.le_of_eq ?_) hcmp
      rw [Nat.mul_assoc, ← Nat.pow_add]; congr 2; omega
    have := le_cut this
    omega
  · have hg := le_cut (hge (by omega))
    have : (E + 1) * f.binade ≤ EL * f.binade := Nat.mul_le_mul_right _ hgt
    rw [Nat.add_mul, Nat.one_mul] at this
    omega

/-- A number that the format has is kept. -/
theorem near_exact (f : Format) {m r : Nat} {p base : Int} (h1 : base ≤ p) (h2 : base ≤ f.leastPlace) (hinf : r ≤ f.infRung)
    (h : m * 2 ^ (p - base).toNat = val f r * 2 ^ (f.leastPlace - base).toNat) : nearRung f m p = r :=
  Nat.le_antisymm (near_le f h1 h2 (Nat.le_of_eq h)) (le_near f h1 h2 hinf (Nat.le_of_eq h.symm))

/-- Magnitudes rise with their rungs. -/
theorem val_lt (f : Format) {r s : Nat} (h : r < s) : val f r < val f s := by
  obtain ⟨E, M, hr, hv, hM, hE⟩ := rung_parts f r
  obtain ⟨E', M', hr', hv', hM', hE'⟩ := rung_parts f s
  rw [hv, hv']
  have hB : 0 < f.binade := Nat.two_pow_pos _
  rcases Nat.lt_trichotomy E E' with hlt | heq | hgt
  · have hEM := hE' (by omega)
    have h1 : M * 2 ^ E < 2 * f.binade * 2 ^ E := (Nat.mul_lt_mul_right (Nat.two_pow_pos _)).2 hM
    have h2 : 2 * f.binade * 2 ^ E ≤ f.binade * 2 ^ E' := by
      rw [Nat.mul_comm 2, Nat.mul_assoc, ← Nat.pow_succ']; exact Nat.mul_le_mul_left _ (Nat.pow_le_pow_right (by decide) (by omega))
    have h3 : f.binade * 2 ^ E' ≤ M' * 2 ^ E' := Nat.mul_le_mul_right _ hEM
    omega
  · subst heq
    exact (Nat.mul_lt_mul_right (Nat.two_pow_pos _)).2 (by omega)
  · exfalso
    have hEM := hE (by omega)
    have : (E' + 1) * f.binade ≤ E * f.binade := Nat.mul_le_mul_right _ hgt
    rw [Nat.add_mul, Nat.one_mul] at this
    omega
theorem val_le (f : Format) {r s : Nat} (h : r ≤ s) : val f r ≤ val f s := by
  rcases Nat.lt_or_eq_of_le h with h | h
  · exact Nat.le_of_lt (val_lt f h)
  · rw [h]; exact Nat.le_refl _
theorem val_zero (f : Format) : val f 0 = 0 := by
  have : 0 < f.binade := Nat.two_pow_pos _
  simp [val, this]

end Go.Fl
