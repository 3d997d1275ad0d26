/- How great a result can be: an operation on numbers that are not above powers of two is not above one. Format double. -/
import Derived.Test.YtabacjajikiaoaaCls
namespace Go.Fl
open Ieee

/-- 'm * 2 ^ p' is not above '2 ^ e'. -/
def Sz (m : Nat) (p e : Int) : Prop := m = 0 ∨ (p ≤ e ∧ m ≤ 2 ^ (e - p).toNat)

theorem Sz.mono {m : Nat} {p e e' : Int} (h : Sz m p e) (he : e ≤ e') : Sz m p e' := by
  rcases h with h | ⟨h1, h2⟩
  · exact .inl h
  · exact .inr ⟨by omega, Nat.le_trans h2 (Nat.pow_le_pow_right (by decide) (by omega))⟩

theorem val_pow (f : Format) {E : Nat} (hE : 1 ≤ E) : val f (E * f.binade) = f.binade * 2 ^ (E - 1) := by
  have hB : 0 < f.binade := Nat.two_pow_pos _
  have := val_parts f (E := E - 1) (M := f.binade) (by omega) (fun _ => Nat.le_refl _)
  rw [← this]
  congr 1
  rw [Nat.sub_mul, Nat.one_mul]
  have : 1 * f.binade ≤ E * f.binade := Nat.mul_le_mul_right _ hE
  omega

theorem near_sz (f : Format) {m E : Nat} {p : Int} (hE : 1 ≤ E) (h : Sz m p (f.fractionBits + E - 1 + f.leastPlace)) : nearRung f m p ≤ E * f.binade := by
  rcases h with rfl | ⟨h1, h2⟩
  · rw [nearRung_zero]; exact Nat.zero_le _
  · refine near_le f (base := min p f.leastPlace) (by omega) (by omega) ?_
    rw [val_pow f hE]
    unfold Format.binade
    rw [← Nat.pow_add, ← Nat.pow_add]
    refine Nat.le_trans (Nat.mul_le_mul_right _ h2) ?_
    rw [← Nat.pow_add]
    exact Nat.pow_le_pow_right (by decide) (by omega)

theorem sz_read (f : Format) {b E m : Nat} {s : Bool} {p : Int} (hE : 1 ≤ E) (hf : E * f.binade < f.infRung) (h : rung f b ≤ E * f.binade) (hr : f.read b = .number s m p) : Sz m p (f.fractionBits + E - 1 + f.leastPlace) := by
  obtain ⟨m', p', e, hp, hv, -⟩ := read_fin f (Nat.lt_of_le_of_lt h hf)
  rw [hr] at e
  injection e with e1 e2 e3
  subst e2; subst e3
  have h1 := val_le f h
  rw [← hv, val_pow f hE] at h1
  unfold Format.binade at h1
  rw [← Nat.pow_add] at h1
  rcases Nat.eq_zero_or_pos m with h0 | h0
  · exact .inl h0
  · refine .inr ⟨?_, ?_⟩
    · refine Int.not_lt.1 fun hlt => ?_
      have h2 : 2 ^ (p - f.leastPlace).toNat ≤ m * 2 ^ (p - f.leastPlace).toNat := Nat.le_mul_of_pos_left _ h0
      have h3 : 2 ^ (f.fractionBits + (E - 1)) < 2 ^ (p - f.leastPlace).toNat := Nat.pow_lt_pow_right (by decide) (by omega)
      omega
    · by_cases hc : (p - f.leastPlace).toNat ≤ f.fractionBits + (E - 1)
      · refine Nat.le_of_mul_le_mul_right ?_ (Nat.two_pow_pos (p - f.leastPlace).toNat)
        rw [← Nat.pow_add]
        refine Nat.le_trans h1 (Nat.pow_le_pow_right (by decide) (by omega))
      · exfalso
        have h2 : 2 ^ (p - f.leastPlace).toNat ≤ m * 2 ^ (p - f.leastPlace).toNat := Nat.le_mul_of_pos_left _ h0
        have h3 : 2 ^ (f.fractionBits + (E - 1)) < 2 ^ (p - f.leastPlace).toNat := Nat.pow_lt_pow_right (by decide) (by omega)
        omega

theorem Sz.mul {m n : Nat} {p q e e' : Int} (h : Sz m p e) (h' : Sz n q e') : Sz (m * n) (p + q) (e + e') := by
  rcases h with rfl | ⟨h1, h2⟩
  · exact .inl (Nat.zero_mul _)
  · rcases h' with rfl | ⟨h3, h4⟩
    · exact .inl (Nat.mul_zero _)
    · refine .inr ⟨by omega, Nat.le_trans (Nat.mul_le_mul h2 h4) ?_⟩
      rw [← Nat.pow_add]
      exact Nat.pow_le_pow_right (by decide) (by omega)

theorem Sz.shift {m : Nat} {p e base : Int} (h : Sz m p e) (hb : base ≤ p) : m * 2 ^ (p - base).toNat ≤ 2 ^ (e - base).toNat := by
  rcases h with rfl | ⟨h1, h2⟩
  · rw [Nat.zero_mul]; exact Nat.zero_le _
  · refine Nat.le_trans (Nat.mul_le_mul_right _ h2) ?_
    rw [← Nat.pow_add]
    exact Nat.pow_le_pow_right (by decide) (by omega)

theorem natAbs_signed (s : Bool) (m up : Nat) : (signed s m up).natAbs = m * 2 ^ up := by
  rw [sg_signed]; unfold sg; split <;> omega

/-- A sum, whatever the signs. -/
theorem Sz.add {m n : Nat} {p q e : Int} (s t : Bool) (h : Sz m p e) (h' : Sz n q e) :
    Sz (signed s m (p - min p q).toNat + signed t n (q - min p q).toNat).natAbs (min p q) (e + 1) := by
  have h1 := h.shift (base := min p q) (by omega)
  have h2 := h'.shift (base := min p q) (by omega)
  have h3 := Int.natAbs_add_le (signed s m (p - min p q).toNat) (signed t n (q - min p q).toNat)
  rw [natAbs_signed, natAbs_signed] at h3
  by_cases hb : min p q ≤ e
  · refine .inr ⟨by omega, ?_⟩
    rw [show (e + 1 - min p q).toNat = (e - min p q).toNat + 1 by omega, Nat.pow_succ]
    omega
  · left
    have hm : m = 0 := by
      rcases h with h | ⟨h, -⟩
      · exact h
      · omega
    have hn : n = 0 := by
      rcases h' with h | ⟨h, -⟩
      · exact h
      · omega
    subst hm; subst hn
    unfold signed; simp

/-- A difference of two numbers that are not negative. -/
theorem Sz.sub_nonneg {m n : Nat} {p q e : Int} (h : Sz m p e) (h' : Sz n q e) :
    Sz (signed false m (p - min p q).toNat + signed true n (q - min p q).toNat).natAbs (min p q) e := by
  have h1 := h.shift (base := min p q) (by omega)
  have h2 := h'.shift (base := min p q) (by omega)
  have h3 : (signed false m (p - min p q).toNat + signed true n (q - min p q).toNat).natAbs ≤ max (m * 2 ^ (p - min p q).toNat) (n * 2 ^ (q - min p q).toNat) := by
    rw [sg_signed, sg_signed]; unfold sg; simp only [if_true, if_false, Bool.false_eq_true]; omega
  by_cases hb : min p q ≤ e
  · exact .inr ⟨hb, by omega⟩
  · left
    have hm : m = 0 := by
      rcases h with h | ⟨h, -⟩
      · exact h
      · omega
    have hn : n = 0 := by
      rcases h' with h | ⟨h, -⟩
      · exact h
      · omega
    subst hm; subst hn
    unfold signed; simp

/-- The digits of a quotient. -/
theorem quo_digits {D n s : Nat} (h : D ≤ n * s) : 2 * (D / n) + (D % n != 0).toNat ≤ 2 * s := by
  have h1 : D / n ≤ s := Nat.div_le_of_le_mul h
  rcases Nat.lt_or_eq_of_le h1 with h2 | h2
  · have : (D % n != 0).toNat ≤ 1 := Bool.toNat_le _
    omega
  · have hd := Nat.div_add_mod D n
    have : D % n = 0 := by rw [h2] at hd; omega
    rw [this, h2]; simp

/-- A quotient whose dividend is not above 2 ^ e times its divisor. -/
theorem Sz.quo {m n digits : Nat} {i j e : Int} (hn : n ≠ 0)
    (h : ∀ base, base ≤ i → base ≤ j + e → m * 2 ^ (i - base).toNat ≤ n * 2 ^ (j + e - base).toNat) :
    Sz (2 * (m <<< (digits + n.log2 - m.log2) / n) + (m <<< (digits + n.log2 - m.log2) % n != 0).toNat) (i - j - (digits + n.log2 - m.log2 : Nat) - 1) e := by
  by_cases hm : m = 0
  · subst hm; left; simp
  generalize hmore : digits + n.log2 - m.log2 = more
  rw [Nat.shiftLeft_eq]
  have hn0 : 0 < n := Nat.pos_of_ne_zero hn
  -- the place of the quotient's digits is not above e
  have hlog : n.log2 ≤ m.log2 + more := by omega
  have hm1 : 2 ^ m.log2 ≤ m := Nat.log2_self_le hm
  have hn1 : n < 2 ^ (n.log2 + 1) := Nat.lt_log2_self
  have hDn : n < 2 * (m * 2 ^ more) := by
    have h1 : 2 ^ (m.log2 + more) ≤ m * 2 ^ more := by rw [Nat.pow_add]; exact Nat.mul_le_mul_right _ hm1
    have h2 : 2 ^ (n.log2 + 1) ≤ 2 ^ (m.log2 + more + 1) := Nat.pow_le_pow_right (by decide) (by omega)
    rw [Nat.pow_succ 2 (m.log2 + more)] at h2
    omega
  by_cases hs : i - j - more ≤ e
  · have hD : m * 2 ^ more ≤ n * 2 ^ (e - (i - j - more)).toNat := by
      have h1 := h (i - more) (by omega) (by omega)
      rw [show (i - (i - (more : Int))).toNat = more by omega, show (j + e - (i - (more : Int))).toNat = (e - (i - j - more)).toNat by omega] at h1
      exact h1
    have h2 := quo_digits hD
    refine .inr ⟨by omega, ?_⟩
    rw [show (e - (i - j - (more : Int) - 1)).toNat = (e - (i - j - more)).toNat + 1 by omega, Nat.pow_succ]
    omega
  · -- then the dividend is below the divisor, against the digits that were laid on
    exfalso
    have h1 := h (j + e) (by omega) (by omega)
    rw [show (j + e - (j + e)).toNat = 0 by omega, Nat.pow_zero, Nat.mul_one] at h1
    have h3 : 2 ^ (more + 1) ≤ 2 ^ (i - (j + e)).toNat := Nat.pow_le_pow_right (by decide) (by omega)
    have h4 : m * 2 ^ (more + 1) ≤ m * 2 ^ (i - (j + e)).toNat := Nat.mul_le_mul_left _ h3
    rw [Nat.pow_succ] at h4
    have h5 : m * (2 ^ more * 2) = 2 * (m * 2 ^ more) := by rw [Nat.mul_comm 2, Nat.mul_assoc]
    omega

/-! On classes. -/
/-- Every word of the class is a number not above '2 ^ (E - 1023)' in magnitude. -/
def LeE (c : Option Nat) (E : Nat) : Prop := ∃ b, c = some b ∧ rung FloatKind.f64.format b ≤ E * 2 ^ 52
theorem bin64 : FloatKind.f64.format.binade = 2 ^ 52 := by decide
theorem fin_lt {E : Nat} (h : E < 2047) : E * FloatKind.f64.format.binade < FloatKind.f64.format.infRung := by
  have : FloatKind.f64.format.infRung = 2047 * FloatKind.f64.format.binade := by decide
  rw [this]
  exact (Nat.mul_lt_mul_right (Nat.two_pow_pos _)).2 h
theorem LeE.mono {c : Option Nat} {E E' : Nat} (h : LeE c E) (hE : E ≤ E') : LeE c E' := by
  obtain ⟨b, hb, hr⟩ := h
  exact ⟨b, hb, Nat.le_trans hr (Nat.mul_le_mul_right _ hE)⟩

theorem LeE.read {b E : Nat} (hE : 1 ≤ E) (hE2 : E < 2047) (h : rung FloatKind.f64.format b ≤ E * 2 ^ 52) : ∃ m p, FloatKind.f64.format.read b = .number (sgn FloatKind.f64.format b) m p ∧ Sz m p (E - 1023) := by
  rw [← bin64] at h
  obtain ⟨m, p, e, -⟩ := read_fin FloatKind.f64.format (Nat.lt_of_le_of_lt h (fin_lt hE2))
  have := sz_read FloatKind.f64.format hE (fin_lt hE2) h e
  refine ⟨m, p, e, ?_⟩
  rwa [show (FloatKind.f64.format.fractionBits : Int) + E - 1 + FloatKind.f64.format.leastPlace = E - 1023 by show (52 : Int) + E - 1 + (-1074) = _; omega] at this

theorem LeE.write {m E : Nat} {s : Bool} {p : Int} (hE : 1 ≤ E) (hE2 : E < 2047) (h : Sz m p (E - 1023)) : LeE (some (FloatKind.f64.format.write (.number s m p))) E := by
  refine ⟨_, rfl, ?_⟩
  have h2 : Sz m p (FloatKind.f64.format.fractionBits + E - 1 + FloatKind.f64.format.leastPlace) := by
    rwa [show (FloatKind.f64.format.fractionBits : Int) + E - 1 + FloatKind.f64.format.leastPlace = E - 1023 by show (52 : Int) + E - 1 + (-1074) = _; omega]
  have h3 := near_sz FloatKind.f64.format hE h2
  show rung FloatKind.f64.format (FloatKind.f64.format.nearest s m p) ≤ _
  rw [nearest_eq, (sgn_word .f64 s (Nat.le_of_lt (Nat.lt_of_le_of_lt h3 (fin_lt hE2)))).2, ← bin64]
  exact h3

theorem LeE.mul {c d : Option Nat} {E F G : Nat} (hc : LeE c E) (hd : LeE d F) (hE : 1 ≤ E) (hF : 1 ≤ F) (hE2 : E < 2047) (hF2 : F < 2047) (hG : E + F ≤ G + 1023) (hG1 : 1 ≤ G) (hG2 : G < 2047) : LeE (fop .mul .f64 c d) G := by
  obtain ⟨a, rfl, ha⟩ := hc
  obtain ⟨b, rfl, hb⟩ := hd
  obtain ⟨m, p, e1, s1⟩ := LeE.read hE hE2 ha
  obtain ⟨n, q, e2, s2⟩ := LeE.read hF hF2 hb
  show LeE (FloatKind.f64.format.mul a b) G
  unfold Format.mul
  rw [e1, e2]
  exact LeE.write hG1 hG2 ((s1.mul s2).mono (by omega))

theorem LeE.add {c d : Option Nat} {E G : Nat} (hc : LeE c E) (hd : LeE d E) (hE : 1 ≤ E) (hG : E + 1 ≤ G) (hG2 : G < 2047) : LeE (fop .add .f64 c d) G := by
  obtain ⟨a, rfl, ha⟩ := hc
  obtain ⟨b, rfl, hb⟩ := hd
  obtain ⟨m, p, e1, s1⟩ := LeE.read hE (by omega) ha
  obtain ⟨n, q, e2, s2⟩ := LeE.read hE (by omega) hb
  show LeE (FloatKind.f64.format.add a b) G
  unfold Format.add
  rw [e1, e2]
  exact LeE.write (by omega) hG2 ((Sz.add _ _ s1 s2).mono (by omega))

theorem LeE.sub {c d : Option Nat} {E G : Nat} (hc : LeE c E) (hd : LeE d E) (hE : 1 ≤ E) (hG : E + 1 ≤ G) (hG2 : G < 2047) : LeE (fop .sub .f64 c d) G := by
  obtain ⟨a, rfl, ha⟩ := hc
  obtain ⟨b, rfl, hb⟩ := hd
  obtain ⟨m, p, e1, s1⟩ := LeE.read hE (by omega) ha
  obtain ⟨n, q, e2, s2⟩ := LeE.read hE (by omega) hb
  show LeE (FloatKind.f64.format.sub a b) G
  unfold Format.sub
  rw [e1, e2]
  exact LeE.write (by omega) hG2 ((Sz.add _ _ s1 s2).mono (by omega))

/-- What is not above 2 ^ 127 is a number of format single. -/
theorem fits_of_le {c : Option Nat} (h : LeE c 1150) : fits c = true := by
  obtain ⟨b, rfl, hb⟩ := h
  obtain ⟨m, p, e, s⟩ := LeE.read (by decide) (by decide) hb
  unfold fits
  simp only [e, Format.write, nearest_eq]
  have h3 : nearRung FloatKind.f32.format m p ≤ 254 * FloatKind.f32.format.binade := by
    refine near_sz FloatKind.f32.format (by decide) (s.mono ?_)
    show ((1150 : Nat) : Int) - 1023 ≤ (23 : Int) + ((254 : Nat) : Int) - 1 + (-149)
    decide
  rw [read_fin_word .f32 _ (Nat.lt_of_le_of_lt h3 (by decide))]
  rfl

/-! Numbers that are not negative; lower bounds. -/
/-- A number that is not negative and not above '2 ^ (E - 1023)'. -/
def NnE (c : Option Nat) (E : Nat) : Prop := ∃ b, c = some b ∧ sgn FloatKind.f64.format b = false ∧ rung FloatKind.f64.format b ≤ E * 2 ^ 52
/-- A finite number whose magnitude is at least '2 ^ (F - 1023)'. -/
def GeE (c : Option Nat) (F : Nat) : Prop := ∃ b, c = some b ∧ F * 2 ^ 52 ≤ rung FloatKind.f64.format b ∧ rung FloatKind.f64.format b < FloatKind.f64.format.infRung

theorem NnE.le {c : Option Nat} {E : Nat} (h : NnE c E) : LeE c E := by
  obtain ⟨b, hb, -, hr⟩ := h; exact ⟨b, hb, hr⟩
theorem NnE.mono {c : Option Nat} {E E' : Nat} (h : NnE c E) (hE : E ≤ E') : NnE c E' := by
  obtain ⟨b, hb, hs, hr⟩ := h
  exact ⟨b, hb, hs, Nat.le_trans hr (Nat.mul_le_mul_right _ hE)⟩

theorem NnE.read {c : Option Nat} {E : Nat} (h : NnE c E) (hE : 1 ≤ E) (hE2 : E < 2047) : ∃ b m p, c = some b ∧ FloatKind.f64.format.read b = .number false m p ∧ Sz m p (E - 1023) := by
  obtain ⟨b, hb, hs, hr⟩ := h
  obtain ⟨m, p, e, s⟩ := LeE.read hE hE2 hr
  rw [hs] at e
  exact ⟨b, m, p, hb, e, s⟩

theorem NnE.write {m E : Nat} {p : Int} (hE : 1 ≤ E) (hE2 : E < 2047) (h : Sz m p (E - 1023)) : NnE (some (FloatKind.f64.format.write (.number false m p))) E := by
  obtain ⟨b, hb, hr⟩ := LeE.write (s := false) hE hE2 h
  refine ⟨b, hb, ?_, hr⟩
  injection hb with hb
  have h2 : Sz m p (FloatKind.f64.format.fractionBits + E - 1 + FloatKind.f64.format.leastPlace) := by
    rwa [show (FloatKind.f64.format.fractionBits : Int) + E - 1 + FloatKind.f64.format.leastPlace = E - 1023 by show (52 : Int) + E - 1 + (-1074) = _; omega]
  have h3 := near_sz FloatKind.f64.format hE h2
  rw [← hb]
  show sgn FloatKind.f64.format (FloatKind.f64.format.nearest false m p) = false
  rw [nearest_eq]
  exact (sgn_word .f64 false (Nat.le_of_lt (Nat.lt_of_le_of_lt h3 (fin_lt hE2)))).1

theorem GeE.read {c : Option Nat} {F : Nat} (h : GeE c F) (hF : 1 ≤ F) : ∃ b n q, c = some b ∧ FloatKind.f64.format.read b = .number (sgn FloatKind.f64.format b) n q ∧ n ≠ 0 ∧
    ∀ base : Int, base ≤ q → base ≤ (F : Int) - 1023 → 2 ^ ((F : Int) - 1023 - base).toNat ≤ n * 2 ^ (q - base).toNat := by
  obtain ⟨b, hb, h1, h2⟩ := h
  obtain ⟨n, q, e, hq, hv, -⟩ := read_fin FloatKind.f64.format h2
  have h3 := val_le FloatKind.f64.format h1
  rw [← bin64, val_pow _ hF, ← hv] at h3
  have h4 : FloatKind.f64.format.binade * 2 ^ (F - 1) = 2 ^ (52 + (F - 1)) := by rw [bin64, ← Nat.pow_add]
  rw [h4] at h3
  have hl : FloatKind.f64.format.leastPlace = -1074 := by decide
  rw [hl] at h3 hq
  have hn : n ≠ 0 := by
    intro h0
    rw [h0, Nat.zero_mul] at h3
    have := Nat.two_pow_pos (52 + (F - 1))
    omega
  refine ⟨b, n, q, hb, e, hn, fun base hb1 hb2 => ?_⟩
  -- 2 ^ (52 + F - 1) ≤ n * 2 ^ (q + 1074)
  rcases Int.le_total base (-1074) with hc | hc
  · have := Nat.mul_le_mul_right (2 ^ (-1074 - base).toNat) h3
    rw [← Nat.pow_add, Nat.mul_assoc, ← Nat.pow_add] at this
    rwa [show 52 + (F - 1) + (-1074 - base).toNat = ((F : Int) - 1023 - base).toNat by omega, show (q - -1074).toNat + (-1074 - base).toNat = (q - base).toNat by omega] at this
  · refine Nat.le_of_mul_le_mul_right ?_ (Nat.two_pow_pos (base + 1074).toNat)
    rw [← Nat.pow_add, Nat.mul_assoc, ← Nat.pow_add]
    rwa [show ((F : Int) - 1023 - base).toNat + (base + 1074).toNat = 52 + (F - 1) by omega, show (q - base).toNat + (base + 1074).toNat = (q - -1074).toNat by omega]

theorem quo_sz {m n digits E F G : Nat} {i j : Int} (hm : Sz m i (E - 1023)) (hn : n ≠ 0) (hlow : ∀ base : Int, base ≤ j → base ≤ (F : Int) - 1023 → 2 ^ ((F : Int) - 1023 - base).toNat ≤ n * 2 ^ (j - base).toNat) (hG : E + 1023 ≤ G + F) :
    Sz (2 * (m <<< (digits + n.log2 - m.log2) / n) + (m <<< (digits + n.log2 - m.log2) % n != 0).toNat) (i - j - (digits + n.log2 - m.log2 : Nat) - 1) ((G : Int) - 1023) := by
  refine Sz.quo hn fun base h1 h2 => ?_
  rcases hm with rfl | ⟨hm1, hm2⟩
  · rw [Nat.zero_mul]; exact Nat.zero_le _
  · have h3 := Sz.shift (base := base) (.inr ⟨hm1, hm2⟩ : Sz m i (E - 1023)) h1
    have h4 := hlow (base - ((G : Int) - 1023)) (by omega) (by omega)
    refine Nat.le_trans h3 (Nat.le_trans ?_ (Nat.le_trans h4 (Nat.le_of_eq ?_)))
    · exact Nat.pow_le_pow_right (by decide) (by omega)
    · congr 2; omega

theorem LeE.quo {c d : Option Nat} {E F G : Nat} (hc : LeE c E) (hd : GeE d F) (hE : 1 ≤ E) (hE2 : E < 2047) (hF : 1 ≤ F) (hG : E + 1023 ≤ G + F) (hG1 : 1 ≤ G) (hG2 : G < 2047) : LeE (fop .quo .f64 c d) G := by
  obtain ⟨a, rfl, ha⟩ := hc
  obtain ⟨m, p, e1, s1⟩ := LeE.read hE hE2 ha
  obtain ⟨b, n, q, rfl, e2, hn, hlow⟩ := GeE.read hd hF
  show LeE (FloatKind.f64.format.div a b) G
  unfold Format.div
  rw [e1, e2]
  simp only [Datum.quotient, hn, if_false, Option.map_some]
  exact LeE.write hG1 hG2 (quo_sz s1 hn hlow hG)

theorem NnE.quo {c d : Option Nat} {E F G : Nat} (hc : NnE c E) (hd : GeE d F) (hs : ∀ b, d = some b → sgn FloatKind.f64.format b = false) (hE : 1 ≤ E) (hE2 : E < 2047) (hF : 1 ≤ F) (hG : E + 1023 ≤ G + F) (hG1 : 1 ≤ G) (hG2 : G < 2047) : NnE (fop .quo .f64 c d) G := by
  obtain ⟨a, m, p, rfl, e1, s1⟩ := NnE.read hc hE hE2
  obtain ⟨b, n, q, rfl, e2, hn, hlow⟩ := GeE.read hd hF
  show NnE (FloatKind.f64.format.div a b) G
  unfold Format.div
  rw [e1, e2, hs b rfl]
  simp only [Datum.quotient, hn, if_false, Option.map_some, Bool.xor_false]
  exact NnE.write hG1 hG2 (quo_sz s1 hn hlow hG)

theorem NnE.mul {c d : Option Nat} {E F G : Nat} (hc : NnE c E) (hd : NnE d F) (hE : 1 ≤ E) (hF : 1 ≤ F) (hE2 : E < 2047) (hF2 : F < 2047) (hG : E + F ≤ G + 1023) (hG1 : 1 ≤ G) (hG2 : G < 2047) : NnE (fop .mul .f64 c d) G := by
  obtain ⟨a, m, p, rfl, e1, s1⟩ := NnE.read hc hE hE2
  obtain ⟨b, n, q, rfl, e2, s2⟩ := NnE.read hd hF hF2
  show NnE (FloatKind.f64.format.mul a b) G
  unfold Format.mul
  rw [e1, e2]
  exact NnE.write hG1 hG2 ((s1.mul s2).mono (by omega))

theorem signed_nonneg (m k : Nat) : 0 ≤ signed false m k := by
  unfold signed; exact Int.natCast_nonneg _
theorem sum_sign {x y : Int} (hx : 0 ≤ x) (hy : 0 ≤ y) : (if x + y = 0 then (false && false) else decide (x + y < 0)) = false := by
  split
  · rfl
  · exact decide_eq_false (by omega)

/-- A sum of two numbers that are not negative is not negative, and not below the first. -/
theorem NnE.add {c d : Option Nat} {E G : Nat} (hc : NnE c E) (hd : NnE d E) (hE : 1 ≤ E) (hG : E + 1 ≤ G) (hG2 : G < 2047) : NnE (fop .add .f64 c d) G := by
  obtain ⟨a, m, p, rfl, e1, s1⟩ := NnE.read hc hE (by omega)
  obtain ⟨b, n, q, rfl, e2, s2⟩ := NnE.read hd hE (by omega)
  show NnE (FloatKind.f64.format.add a b) G
  unfold Format.add
  rw [e1, e2]
  have hs : (if signed false m (p - min p q).toNat + signed false n (q - min p q).toNat = 0 then (false && false) else decide (signed false m (p - min p q).toNat + signed false n (q - min p q).toNat < 0)) = false := by
    exact sum_sign (signed_nonneg _ _) (signed_nonneg _ _)
  simp only [Datum.sum, Option.map_some]
  rw [hs]
  exact NnE.write (by omega) hG2 ((Sz.add false false s1 s2).mono (by omega))

theorem NnE.add_ge {c d : Option Nat} {E F : Nat} (hc : NnE c E) (hd : NnE d E) (hE : 1 ≤ E) (hE2 : E + 1 < 2047) (hge : GeE c F) (hF : 1 ≤ F) : GeE (fop .add .f64 c d) F := by
  obtain ⟨b0, hb0, hs0, hr0⟩ := NnE.add hc hd hE (Nat.le_refl _) hE2
  refine ⟨b0, hb0, ?_, Nat.lt_of_le_of_lt (bin64 ▸ hr0) (fin_lt hE2)⟩
  obtain ⟨a, m, p, rfl, e1, s1⟩ := NnE.read hc hE (by omega)
  obtain ⟨b, n, q, rfl, e2, s2⟩ := NnE.read hd hE (by omega)
  obtain ⟨a', n', q', ha', e1', hn', hlow⟩ := GeE.read hge hF
  injection ha' with ha'
  subst ha'
  rw [e1] at e1'
  injection e1' with g1 g2 g3
  subst g2; subst g3
  have hsum : fop .add .f64 (some a) (some b) = some (FloatKind.f64.format.write (.number false (signed false m (p - min p q).toNat + signed false n (q - min p q).toNat).natAbs (min p q))) := by
    show FloatKind.f64.format.add a b = _
    unfold Format.add
    rw [e1, e2]
    simp only [Datum.sum, Option.map_some]
    congr 3
    exact sum_sign (signed_nonneg _ _) (signed_nonneg _ _)
  rw [hsum] at hb0
  injection hb0 with hb0
  have hFE : F < 2047 := by
    obtain ⟨x, hx, h1, h2⟩ := hge
    refine Nat.lt_of_not_le fun h => ?_
    have : 2047 * 2 ^ 52 ≤ F * 2 ^ 52 := Nat.mul_le_mul_right _ h
    have h3 : FloatKind.f64.format.infRung = 2047 * 2 ^ 52 := by decide
    omega
  have hle : F * FloatKind.f64.format.binade ≤ nearRung FloatKind.f64.format (signed false m (p - min p q).toNat + signed false n (q - min p q).toNat).natAbs (min p q) := by
    have hl : FloatKind.f64.format.leastPlace = -1074 := by decide
    refine le_near FloatKind.f64.format (base := min (min p q) (-1074)) (by omega) (by rw [hl]; omega) (Nat.le_of_lt (fin_lt hFE)) ?_
    rw [val_pow _ hF, bin64, hl, ← Nat.pow_add, ← Nat.pow_add]
    generalize hbs : min (min p q) (-1074) = base
    have h5 := hlow base (by omega) (by omega)
    refine Nat.le_trans (Nat.le_of_eq ?_) (Nat.le_trans h5 ?_)
    · congr 1; omega
    · have h6 : m * 2 ^ (p - min p q).toNat ≤ (signed false m (p - min p q).toNat + signed false n (q - min p q).toNat).natAbs := by
        unfold signed; simp only [Bool.false_eq_true, if_false, Nat.shiftLeft_eq]; omega
      have h7 := Nat.mul_le_mul_right (2 ^ (min p q - base).toNat) h6
      refine Nat.le_trans (Nat.le_of_eq ?_) h7
      rw [Nat.mul_assoc, ← Nat.pow_add]; congr 2; omega
  have h8 : rung FloatKind.f64.format b0 = nearRung FloatKind.f64.format (signed false m (p - min p q).toNat + signed false n (q - min p q).toNat).natAbs (min p q) := by
    rw [← hb0]
    show rung FloatKind.f64.format (FloatKind.f64.format.nearest _ _ _) = _
    rw [nearest_eq]
    exact (sgn_word .f64 false (by unfold nearRung; split; exact Nat.zero_le _; exact Nat.min_le_right ..)).2
  rw [h8, ← bin64]
  exact hle

theorem rootFrom_sq (n : Nat) : ∀ todo root, root * root ≤ n → Datum.rootFrom n todo root * Datum.rootFrom n todo root ≤ n := by
  intro todo
  induction todo with
  | zero => intro root h; exact h
  | succ todo ih =>
    intro root h
    unfold Datum.rootFrom
    dsimp only
    split
    · rename_i hle; exact ih _ hle
    · exact ih _ h

theorem NnE.sqrt {c : Option Nat} {E G : Nat} (hc : NnE c E) (hE : 1 ≤ E) (hE2 : E < 2047) (hG : E + 1023 + 4 ≤ 2 * G) (hG1 : 1 ≤ G) (hG2 : G < 2047) : NnE (fsqrt c) G := by
  obtain ⟨a, m, i, rfl, e1, s1⟩ := NnE.read hc hE hE2
  show NnE (FloatKind.f64.format.sqrt a) G
  unfold Format.sqrt
  rw [e1]
  by_cases hm : m = 0
  · subst hm
    simp only [Datum.root, if_true, Option.map_some]
    exact NnE.write hG1 hG2 (.inl rfl)
  · simp only [Datum.root, hm, if_false, Bool.false_eq_true, Option.map_some]
    generalize hmore : 2 * (FloatKind.f64.format.fractionBits + 2) - m.log2 + ((i - ↑(2 * (FloatKind.f64.format.fractionBits + 2) - m.log2)) % 2).toNat = more
    have heven : (i - more) = 2 * ((i - more) / 2) := by omega
    generalize hq : (i - (more : Int)) / 2 = q at heven ⊢
    generalize hn : m <<< more = n
    have hsq := rootFrom_sq n (n.log2 / 2 + 1) 0 (by omega)
    generalize Datum.rootFrom n (n.log2 / 2 + 1) 0 = whole at hsq ⊢
    refine NnE.write hG1 hG2 ?_
    rcases s1 with h0 | ⟨h1, h2⟩
    · exact absurd h0 hm
    · rw [Nat.shiftLeft_eq] at hn
      have hn2 : n ≤ 2 ^ ((E : Int) - 1023 - 2 * q).toNat := by
        rw [← hn]
        refine Nat.le_trans (Nat.mul_le_mul_right _ h2) ?_
        rw [← Nat.pow_add]
        exact Nat.pow_le_pow_right (by decide) (by omega)
      have hqe : 2 * q ≤ (E : Int) - 1023 := by omega
      generalize hK : ((E : Int) - 1023 - 2 * q).toNat = K at hn2
      have hw : whole ≤ 2 ^ ((K + 1) / 2) := by
        refine Nat.le_of_not_lt fun hlt => ?_
        have h3 : 2 ^ ((K + 1) / 2) * 2 ^ ((K + 1) / 2) < whole * whole := Nat.mul_lt_mul'' hlt hlt
        rw [← Nat.pow_add] at h3
        have h4 : 2 ^ K ≤ 2 ^ ((K + 1) / 2 + (K + 1) / 2) := Nat.pow_le_pow_right (by decide) (by omega)
        omega
      refine .inr ⟨by omega, ?_⟩
      have h5 : (whole * whole != n).toNat ≤ 1 := Bool.toNat_le _
      have h6 : 2 * whole + (whole * whole != n).toNat ≤ 2 ^ ((K + 1) / 2 + 2) := by
        rw [Nat.pow_add]
        have := Nat.two_pow_pos ((K + 1) / 2)
        omega
      exact Nat.le_trans h6 (Nat.pow_le_pow_right (by decide) (by omega))

theorem pow_split (a b c d e : Nat) (h : a + b = c + d + e) : 2 ^ a * 2 ^ b = 2 ^ c * 2 ^ d * 2 ^ e := by
  rw [← Nat.pow_add, ← Nat.pow_add, ← Nat.pow_add, h]

/-- The root of a widened number is a number of format single. -/
theorem fits_sqrt (a : Nat) : fits (fsqrt (widen (cl .f32 a))) = true := by
  cases h : cl .f32 a with
  | none => rfl
  | some c =>
    obtain ⟨d, h1, h2, h3, h4, h5⟩ := widen_cl h
    rw [h1]
    have hr := rung_le h
    by_cases hlt : rung FloatKind.f32.format c < FloatKind.f32.format.infRung
    · cases hs : sgn FloatKind.f64.format d with
      | true =>
        -- a number that is negative: its root is a NaN, or it is a zero
        have hfin : rung FloatKind.f64.format d < FloatKind.f64.format.infRung := by rw [h5]; exact (up_val hlt).2
        obtain ⟨m, p, e, -⟩ := read_fin FloatKind.f64.format hfin
        rw [hs] at e
        show fits (FloatKind.f64.format.sqrt d) = true
        unfold Format.sqrt
        rw [e]
        by_cases hm : m = 0
        · subst hm
          simp only [Datum.root, if_true, Option.map_some]
          refine fits_of_le (LeE.mono (E := 1) (LeE.write (by decide) (by decide) (.inl rfl)) (by decide))
        · simp only [Datum.root, hm, if_false, if_true, Option.map_none]; rfl
      | false =>
        have hle : rung FloatKind.f64.format d ≤ 1151 * 2 ^ 52 := by
          have h6 := up_lt hlt (Nat.le_refl _)
          have h7 := (up_val hlt).1
          have h8 : val Ieee.double (up (rung FloatKind.f32.format c)) ≤ val Ieee.double (1151 * Ieee.double.binade) := by
            rw [h7, val_pow _ (by decide)]
            have h9 := val_lt Ieee.single hlt
            have h10 : val Ieee.single (255 * Ieee.single.binade) = Ieee.single.binade * 2 ^ (255 - 1) := val_pow _ (by decide)
            rw [show FloatKind.f32.format.infRung = 255 * Ieee.single.binade by decide, h10] at h9
            have h11 : Ieee.double.binade * 2 ^ (1151 - 1) = Ieee.single.binade * 2 ^ (255 - 1) * 2 ^ lift := by
              rw [show Ieee.double.binade = 2 ^ 52 from rfl, show Ieee.single.binade = 2 ^ 23 from rfl]
              exact pow_split 52 (1151 - 1) 23 (255 - 1) lift (by decide)
            rw [h11]
            exact Nat.mul_le_mul_right _ (Nat.le_of_lt h9)
          rw [h5]
          refine Nat.le_of_not_lt fun hgt => ?_
          have := val_lt Ieee.double hgt
          have hb : (1151 * 2 ^ 52) = 1151 * Ieee.double.binade := rfl
          rw [hb] at this
          omega
        exact fits_of_le (NnE.mono (NnE.sqrt ⟨d, rfl, hs, hle⟩ (E := 1151) (G := 1090) (by decide) (by decide) (by decide) (by decide) (by decide)) (by decide)).le
    · have he : rung FloatKind.f64.format d = FloatKind.f64.format.infRung := by
        have : rung FloatKind.f32.format c = FloatKind.f32.format.infRung := by omega
        rw [h5, this]; exact up_inf
      show fits (FloatKind.f64.format.sqrt d) = true
      unfold Format.sqrt
      rw [read_inf FloatKind.f64.format (fmt_pos .f64).2.2 he]
      cases sgn FloatKind.f64.format d
      · simp only [Datum.root, Bool.false_eq_true, if_false, Option.map_some]; rfl
      · simp only [Datum.root, if_true, Option.map_none]; rfl

end Go.Fl
