/- Turns: what is left of a number behind its whole part, and the sine that is made of it. -/
import Derived.Test.YtabacjajikiaoaaTrn
namespace Go.Fl
open Ieee

/-- Two numbers with one whole part lie less than 1 apart. -/
theorem gap_sz {A B M V L : Nat} {base : Int} (hb : -(L : Int) ≤ base) (hA : A * 2 ^ (base + L).toNat = V) (hB : B * 2 ^ (base + L).toNat = M * 2 ^ L) (h1 : M * 2 ^ L ≤ V) (h2 : V < (M + 1) * 2 ^ L) :
    B ≤ A ∧ (A - B = 0 ∨ (base ≤ 0 ∧ A - B ≤ 2 ^ (0 - base).toNat)) := by
  have hp := Nat.two_pow_pos (base + L).toNat
  have hle : B ≤ A := Nat.le_of_mul_le_mul_right (by rw [hA, hB]; exact h1) hp
  refine ⟨hle, ?_⟩
  have hd : (A - B) * 2 ^ (base + L).toNat < 2 ^ L := by
    rw [Nat.mul_sub_right_distrib, hA, hB]
    rw [Nat.add_mul, Nat.one_mul] at h2
    omega
  rcases Int.le_total 0 base with h | h
  · left
    have h3 : 2 ^ L ≤ 2 ^ (base + L).toNat := Nat.pow_le_pow_right (by decide) (by omega)
    rcases Nat.eq_zero_or_pos (A - B) with h4 | h4
    · exact h4
    · have := Nat.mul_le_mul_right (2 ^ (base + L).toNat) h4
      omega
  · right
    refine ⟨h, ?_⟩
    have e : 2 ^ L = 2 ^ (0 - base).toNat * 2 ^ (base + L).toNat := by rw [← Nat.pow_add]; congr 1; omega
    rw [e] at hd
    exact Nat.le_of_lt (Nat.lt_of_mul_lt_mul_right hd)

theorem zero_of {n k M L : Nat} (h : n * 2 ^ k = M * 2 ^ L) (h0 : M = 0) : n = 0 := by
  rw [h0, Nat.zero_mul] at h
  exact (Nat.mul_eq_zero.1 h).resolve_right (Nat.ne_of_gt (Nat.two_pow_pos _))
theorem natAbs_gap (s t : Bool) {A B : Nat} (hle : B ≤ A) (h : s = t ∨ B = 0) : (sg s A + sg (!t) B).natAbs = A - B := by
  unfold sg
  rcases h with rfl | rfl
  · cases s <;> simp <;> omega
  · cases s <;> cases t <;> simp

/-- The word of a whole number. -/
theorem whole_word {M : Nat} (s : Bool) (hM : M ≤ 2 ^ 52) : ∃ R, FloatKind.f64.format.write (.number s M 0) = FloatKind.f64.format.word s R ∧ R < FloatKind.f64.format.infRung ∧
    val FloatKind.f64.format R = M * 2 ^ (0 - FloatKind.f64.format.leastPlace).toNat ∧ (M = 0 → R = 0) := by
  refine ⟨nearRung FloatKind.f64.format M 0, ?_, ?_⟩
  · rw [write_num, nearest_eq]
  · rcases Nat.eq_zero_or_pos M with rfl | h
    · rw [nearRung_zero, val_zero, Nat.zero_mul]
      exact ⟨by decide, rfl, fun _ => rfl⟩
    · have hl : M.log2 ≤ 52 := by
        have : M.log2 < 53 := (Nat.log2_lt (by omega)).2 (by omega)
        omega
      have := near_val FloatKind.f64.format (m := M) (p := 0) (by omega) (by rw [bin64]; omega) (by rw [lp64]; decide) (by
        rw [lp64]
        have e1 : (FloatKind.f64.format.fractionBits : Int) = 52 := by decide
        have e2 : (2 : Int) ^ FloatKind.f64.format.exponentBits = 2048 := by decide
        have e3 : ((2 ^ FloatKind.f64.format.exponentBits : Nat) : Int) = 2048 := by decide
        omega) (by decide)
      exact ⟨this.2, this.1, fun h0 => by omega⟩

theorem read_of_word (s : Bool) {R : Nat} (hR : R < FloatKind.f64.format.infRung) : ∃ m p, FloatKind.f64.format.read (FloatKind.f64.format.word s R) = .number s m p ∧ FloatKind.f64.format.leastPlace ≤ p ∧ m * 2 ^ (p - FloatKind.f64.format.leastPlace).toNat = val FloatKind.f64.format R := by
  have hw := sgn_word .f64 s (Nat.le_of_lt hR)
  obtain ⟨m, p, e, h1, h2, -⟩ := read_fin FloatKind.f64.format (b := FloatKind.f64.format.word s R) (by rw [hw.2]; exact hR)
  rw [hw.1] at e
  rw [hw.2] at h2
  exact ⟨m, p, e, h1, h2⟩
theorem read_zero : FloatKind.f64.format.read 0 = .number false 0 FloatKind.f64.format.leastPlace := by decide +kernel
theorem cl_word (s : Bool) {R : Nat} (hR : R < FloatKind.f64.format.infRung) : cl .f64 (FloatKind.f64.format.word s R) = some (FloatKind.f64.format.word s R) :=
  cl_num (read_word .f64 s R (Nat.le_of_lt hR))

theorem fop_add (a b : Nat) : fop .add .f64 (some a) (some b) = FloatKind.f64.format.add a b := rfl
theorem fop_sub (a b : Nat) : fop .sub .f64 (some a) (some b) = FloatKind.f64.format.sub a b := rfl
/-- A number and zero make that number. -/
theorem add_zero (s : Bool) {R : Nat} (h0 : R ≠ 0) (hR : R < FloatKind.f64.format.infRung) : fop .add .f64 (some (FloatKind.f64.format.word s R)) (some 0) = some (FloatKind.f64.format.word s R) := by
  obtain ⟨m, p, e, hp, hv⟩ := read_of_word s hR
  have hz := val_lt FloatKind.f64.format (Nat.pos_of_ne_zero h0)
  rw [val_zero] at hz
  rw [fop_add]
  unfold Format.add
  rw [e, read_zero]
  simp only [Datum.sum, Int.min_eq_right hp, Int.sub_self, sg_signed, hv]
  have e0 : sg false (0 * 2 ^ (0 : Int).toNat) = 0 := by simp [sg]
  rw [e0, Int.add_zero]
  have h1 : sg s (val FloatKind.f64.format R) ≠ 0 := by unfold sg; split <;> omega
  have h2 : decide (sg s (val FloatKind.f64.format R) < 0) = s := by unfold sg; cases s <;> simp <;> omega
  have h3 : (sg s (val FloatKind.f64.format R)).natAbs = val FloatKind.f64.format R := by unfold sg; split <;> omega
  rw [if_neg h1, h2, h3, Option.map_some, write_num, nearest_eq]
  congr 2
  refine near_exact FloatKind.f64.format (base := FloatKind.f64.format.leastPlace) (Int.le_refl _) (Int.le_refl _) (Nat.le_of_lt hR) rfl

/-- A number of turns that is not too great. -/
def Tur (b : Nat) : Prop := cl .f64 b = some b ∧ rung FloatKind.f64.format b < 1075 * 2 ^ 52
theorem i2f_word (n : Int) : i2f n = cl .f64 (FloatKind.f64.format.write (.number (decide (n < 0)) n.natAbs 0)) := rfl

/-- What 'int64(y)' and 'math.Trunc(y)' make of a number: one word, but for the sign of zero. -/
theorem tur_parts {b : Nat} (h : Tur b) : ∃ s m p R, FloatKind.f64.format.read b = .number s m p ∧ FloatKind.f64.format.leastPlace ≤ p ∧ R < FloatKind.f64.format.infRung ∧
    val FloatKind.f64.format R = whole m p * 2 ^ (0 - FloatKind.f64.format.leastPlace).toNat ∧ (whole m p = 0 → R = 0) ∧
    FloatKind.f64.format.write ((FloatKind.f64.format.read b).integral .zero) = FloatKind.f64.format.word s R ∧
    i2f (toI b) = some (FloatKind.f64.format.word (s && decide (whole m p ≠ 0)) R) ∧ (FloatKind.f64.format.read b).toInt .zero = some (toI b) ∧ (toI b).natAbs ≤ 2 ^ 52 := by
  have hf : rung FloatKind.f64.format b < FloatKind.f64.format.infRung := Nat.lt_trans h.2 (by rw [inf64]; decide)
  obtain ⟨m, p, e, hp, hv, hm⟩ := read_fin FloatKind.f64.format hf
  obtain ⟨m', p', e', hs⟩ := LeE.read (E := 1075) (by decide) (by decide) (Nat.le_of_lt h.2)
  rw [e] at e'
  injection e' with _ e1 e2
  subst e1 e2
  have hM : whole m p ≤ 2 ^ 52 := whole_le (e := 52) hs
  obtain ⟨R, w1, w2, w3, w4⟩ := whole_word (sgn FloatKind.f64.format b) hM
  obtain ⟨t1, t2⟩ := toI_le (E := 1075) (by decide) (by decide) (Nat.le_of_lt h.2)
  refine ⟨_, m, p, R, e, hp, w2, w3, w4, ?_, ?_, t1, t2⟩
  · rw [e]
    unfold Datum.integral
    simp only [cut_zero, Nat.shiftLeft_eq]
    exact w1
  · have hn : toI b = sg (sgn FloatKind.f64.format b) (whole m p) := by
      unfold toI
      rw [e, toInt_num, Option.getD_some, sg_signed, Nat.pow_zero, Nat.mul_one]
    have hab : (toI b).natAbs = whole m p := by rw [hn]; unfold sg; split <;> omega
    have hng : decide (toI b < 0) = (sgn FloatKind.f64.format b && decide (whole m p ≠ 0)) := by
      rw [hn]; unfold sg
      cases sgn FloatKind.f64.format b
      · simp
      · simp [Nat.pos_iff_ne_zero]
    rw [i2f_word, hab, hng]
    have w5 : FloatKind.f64.format.write (.number (sgn FloatKind.f64.format b && decide (whole m p ≠ 0)) (whole m p) 0) = FloatKind.f64.format.word (sgn FloatKind.f64.format b && decide (whole m p ≠ 0)) R := by
      rw [write_num, nearest_eq] at w1 ⊢
      congr 1
      unfold Format.word at w1
      split at w1 <;> omega
    rw [w5]
    exact cl_word _ w2

/-- What is left behind the whole part. -/
def fracC (b : Nat) : Option Nat := fop .sub .f64 (some b) (i2f (toI b))
theorem trunc_add {b : Nat} (h : Tur b) : fop .add .f64 (cl .f64 (FloatKind.f64.format.write ((FloatKind.f64.format.read b).integral .zero))) (cl .f64 0) = i2f (toI b) := by
  obtain ⟨s, m, p, R, e, hp, w2, w3, w4, w5, w6, -, -⟩ := tur_parts h
  rw [w5, w6, cl_word _ w2, cl_zero]
  by_cases h0 : whole m p = 0
  · rw [w4 h0, h0]
    cases s <;> decide +kernel
  · have hR : R ≠ 0 := by
      intro hR
      rw [hR, val_zero] at w3
      have := Nat.mul_pos (Nat.pos_of_ne_zero h0) (Nat.two_pow_pos (0 - FloatKind.f64.format.leastPlace).toNat)
      omega
    rw [show (s && decide (whole m p ≠ 0)) = s by simp [h0]]
    exact add_zero s hR w2
theorem frac_le {b : Nat} (h : Tur b) : LeE (fracC b) 1023 := by
  obtain ⟨s, m, p, R, e, hp, w2, w3, w4, w5, w6, -, -⟩ := tur_parts h
  unfold fracC
  rw [w6, fop_sub]
  obtain ⟨n, q, e2, hq, hv2⟩ := read_of_word (s && decide (whole m p ≠ 0)) w2
  unfold Format.sub
  rw [e, e2]
  simp only [Datum.opposite, Datum.sum, Option.map_some]
  refine LeE.write (by decide) (by decide) ?_
  simp only [sg_signed]
  rw [lp64] at hp hq hv2 w3
  have hbase : -((1074 : Nat) : Int) ≤ min p q := by omega
  have hsc := whole_scaled (m := m) (L := 1074) (p := p) (by omega)
  have e3 : (p + (1074 : Nat)).toNat = (p - min p q).toNat + (min p q + (1074 : Nat)).toNat := by omega
  have e4 : (q - -1074).toNat = (q - min p q).toNat + (min p q + (1074 : Nat)).toNat := by omega
  have e5 : ((0 : Int) - -1074).toNat = 1074 := by decide
  rw [e4, Nat.pow_add 2 (q - min p q).toNat, ← Nat.mul_assoc, w3, e5] at hv2
  rw [e3, Nat.pow_add 2 (p - min p q).toNat, ← Nat.mul_assoc] at hsc
  obtain ⟨g1, g2⟩ := gap_sz hbase rfl hv2 hsc.1 hsc.2
  have g3 := natAbs_gap s (s && decide (whole m p ≠ 0)) g1 (by
    by_cases h0 : whole m p = 0
    · right
      exact zero_of hv2 h0
    · left; simp [h0])
  unfold Sz
  rw [g3]
  exact g2

/-- Turns from 0 on. -/
def behC (b : Nat) : Option Nat := if flt .f64 (fracC b) (cl .f64 0) then fop .add .f64 (fracC b) (cl .f64 4607182418800017408) else fracC b
def sinT (f : Option Nat) : Bool := fgt .f64 f (cl .f64 4602678819172646912) || feq .f64 f (cl .f64 4602678819172646912)
def sinA (t : Bool) (f : Option Nat) : Option Nat := if t then fop .sub .f64 f (cl .f64 4602678819172646912) else f
def sinQ (f : Option Nat) : Bool := fgt .f64 f (cl .f64 4598175219545276416)
def sinB (q : Bool) (f : Option Nat) : Option Nat := if q then fop .sub .f64 (cl .f64 4602678819172646912) f else f
def sinZ (f : Option Nat) : Option Nat := fop .mul .f64 (sinB (sinQ (sinA (sinT f) f)) (sinA (sinT f) f)) (cl .f64 4618760256179416344)
def sinP (u : Option Nat) : Nat → Option Nat
  | 0 => cl .f64 4607182418800017408
  | j + 1 => fop .sub .f64 (cl .f64 4607182418800017408) (fop .quo .f64 (fop .mul .f64 u (sinP u j)) (i2f (2 * (8 - (j : Int)) * (2 * (8 - (j : Int)) + 1))))
def sinU (z : Option Nat) : Option Nat := fop .mul .f64 z z
def sinO (z : Option Nat) : Option Nat := fop .mul .f64 z (sinP (sinU z) 8)
/-- The sine of turns. -/
def sinC (b : Nat) : Option Nat := if sinT (behC b) then negC (sinO (sinZ (behC b))) else sinO (sinZ (behC b))

theorem k1_le : LeE (cl .f64 4607182418800017408) 1023 := leB_le (by decide +kernel)
theorem khalf_le : LeE (cl .f64 4602678819172646912) 1023 := leB_le (by decide +kernel)
theorem ktau_le : LeE (cl .f64 4618760256179416344) 1026 := leB_le (by decide +kernel)
theorem beh_le {b : Nat} (h : Tur b) : LeE (behC b) 1024 := by
  unfold behC
  split
  · exact LeE.add (frac_le h) k1_le (by decide) (by decide) (by decide)
  · exact (frac_le h).mono (by decide)
theorem sinA_le {f : Option Nat} (t : Bool) (h : LeE f 1024) : LeE (sinA t f) 1025 := by
  unfold sinA
  split
  · exact LeE.sub h (khalf_le.mono (by decide)) (by decide) (by decide) (by decide)
  · exact h.mono (by decide)
theorem sinB_le {f : Option Nat} (q : Bool) (h : LeE f 1025) : LeE (sinB q f) 1026 := by
  unfold sinB
  split
  · exact LeE.sub (khalf_le.mono (by decide)) h (by decide) (by decide) (by decide)
  · exact h.mono (by decide)
theorem sinZ_le {f : Option Nat} (h : LeE f 1024) : LeE (sinZ f) 1029 :=
  LeE.mul (sinB_le _ (sinA_le _ h)) ktau_le (by decide) (by decide) (by decide) (by decide) (by decide) (by decide) (by decide)
theorem i2f_sin : ∀ j : Nat, j < 8 → geB (i2f (2 * (8 - (j : Int)) * (2 * (8 - (j : Int)) + 1))) 1025 = true := by decide +kernel
theorem sin_wrap : ∀ j : Nat, j < 8 → RowKit.wrap64 (2 * (8 - (j : Int)) * (2 * (8 - (j : Int)) + 1)) = 2 * (8 - (j : Int)) * (2 * (8 - (j : Int)) + 1) := by decide +kernel
theorem sinP_le {u : Option Nat} (h : LeE u 1035) : ∀ j, j ≤ 8 → LeE (sinP u j) (1023 + 11 * j)
  | 0, _ => k1_le
  | j + 1, hj => by
    have h1 : LeE (fop .mul .f64 u (sinP u j)) (1035 + 11 * j) := LeE.mul h (sinP_le h j (by omega)) (by decide) (by omega) (by decide) (by omega) (by omega) (by omega) (by omega)
    have h2 : LeE (fop .quo .f64 (fop .mul .f64 u (sinP u j)) (i2f (2 * (8 - (j : Int)) * (2 * (8 - (j : Int)) + 1)))) (1033 + 11 * j) := LeE.quo h1 (geB_ge (i2f_sin j (by omega))) (by omega) (by omega) (by decide) (by omega) (by omega) (by omega)
    exact LeE.sub (k1_le.mono (by omega)) h2 (by omega) (by omega) (by omega)
theorem sinO_le {z : Option Nat} (h : LeE z 1029) : LeE (sinO z) 1117 := by
  have h1 : LeE (sinU z) 1035 := LeE.mul h h (by decide) (by decide) (by decide) (by decide) (by decide) (by decide) (by decide)
  have h2 := sinP_le h1 8 (Nat.le_refl _)
  exact LeE.mul h h2 (by decide) (by decide) (by decide) (by decide) (by decide) (by decide) (by decide)
theorem sinC_le {b : Nat} (h : Tur b) : LeE (sinC b) 1117 := by
  unfold sinC
  split
  · exact (sinO_le (sinZ_le (beh_le h))).neg
  · exact sinO_le (sinZ_le (beh_le h))

/-! How the tests on far turns come out. -/
theorem c52 : cl .f64 4841369599423283200 = some 4841369599423283200 ∧ key FloatKind.f64.format 4841369599423283200 = 1075 * 2 ^ 52 := by decide +kernel
theorem n52 : cl .f64 14064741636278059008 = some 14064741636278059008 ∧ key FloatKind.f64.format 14064741636278059008 = -(1075 * 2 ^ 52) := by decide +kernel
theorem cmp_ge (a b : Int) : ((some (compare a b) == some .gt) || (some (compare a b) == some .eq)) = decide (b ≤ a) := by
  rw [compare_gt, compare_eq]
  by_cases h : b ≤ a
  · rw [decide_eq_true h]; simp; omega
  · rw [decide_eq_false h]; simp; omega
theorem cmp_le (a b : Int) : ((some (compare a b) == some .lt) || (some (compare a b) == some .eq)) = decide (a ≤ b) := by
  rw [compare_lt, compare_eq]
  by_cases h : a ≤ b
  · rw [decide_eq_true h]; simp; omega
  · rw [decide_eq_false h]; simp; omega
theorem far_hi {b : Nat} (h : cl .f64 b = some b) : (fgt .f64 (some b) (cl .f64 4841369599423283200) || feq .f64 (some b) (cl .f64 4841369599423283200)) = decide ((1075 * 2 ^ 52 : Int) ≤ key FloatKind.f64.format b) := by
  unfold fgt feq
  rw [c52.1, ford_key h c52.1, cmp_ge, c52.2]
theorem far_lo {b : Nat} (h : cl .f64 b = some b) : (flt .f64 (some b) (cl .f64 14064741636278059008) || feq .f64 (some b) (cl .f64 14064741636278059008)) = decide (key FloatKind.f64.format b ≤ (-(1075 * 2 ^ 52) : Int)) := by
  unfold flt feq
  rw [n52.1, ford_key h n52.1, cmp_le, n52.2]
theorem far_abs {b : Nat} (h : cl .f64 b = some b) : (fgt .f64 (absC (some b)) (cl .f64 4841369599423283200) || feq .f64 (absC (some b)) (cl .f64 4841369599423283200)) = decide (1075 * 2 ^ 52 ≤ rung FloatKind.f64.format b) := by
  have h1 : cl .f64 (b % 2 ^ 63) = some (b % 2 ^ 63) := by rw [cl_abs, h]; rfl
  show (fgt .f64 (some (b % 2 ^ 63)) _ || feq .f64 (some (b % 2 ^ 63)) _) = _
  unfold fgt feq
  rw [c52.1, ford_key h1 c52.1, cmp_ge, c52.2, key_abs]
  rw [Bool.eq_iff_iff, decide_eq_true_eq, decide_eq_true_eq]
  omega
theorem far_split {b : Nat} (h : 1075 * 2 ^ 52 ≤ rung FloatKind.f64.format b) : (1075 * 2 ^ 52 : Int) ≤ key FloatKind.f64.format b ∨ (¬ (1075 * 2 ^ 52 : Int) ≤ key FloatKind.f64.format b ∧ key FloatKind.f64.format b ≤ (-(1075 * 2 ^ 52) : Int)) := by
  unfold key sg
  split <;> omega
theorem near_split {b : Nat} (h : rung FloatKind.f64.format b < 1075 * 2 ^ 52) : ¬ (1075 * 2 ^ 52 : Int) ≤ key FloatKind.f64.format b ∧ ¬ key FloatKind.f64.format b ≤ (-(1075 * 2 ^ 52) : Int) := by
  unfold key sg
  split <;> omega
theorem tur_of_le {c : Option Nat} {E : Nat} {b : Nat} (h : LeE c E) (hE : E < 1075) (hb : cl .f64 b = c) : Tur b := by
  obtain ⟨b', rfl, h1⟩ := h
  obtain ⟨rfl, -⟩ := cl_some hb
  refine ⟨hb, Nat.lt_of_le_of_lt h1 ?_⟩
  exact Nat.mul_lt_mul_of_pos_right hE (Nat.two_pow_pos _)
theorem tur_fin {b : Nat} (h : Tur b) : isFin .f64 (cl .f64 b) = true := by
  rw [h.1]
  unfold isFin
  rw [decide_eq_true_eq, inf64]
  exact Nat.lt_trans h.2 (by decide)
theorem tur_int {b : Nat} (h : Tur b) : (FloatKind.f64.format.read b).toInt .zero = some (toI b) ∧ -9223372036854775808 ≤ toI b ∧ toI b ≤ 9223372036854775807 := by
  obtain ⟨t1, t2⟩ := toI_le (E := 1075) (by decide) (by decide) (Nat.le_of_lt h.2)
  exact ⟨t1, by omega, by omega⟩
/-- What 'SineTurns' returns, in 64 bits. -/
def sinW (x : Option Nat) : Option Nat :=
  match x with
  | none => none
  | some b => if isFin .f64 (some b) then (if 1075 * 2 ^ 52 ≤ rung FloatKind.f64.format b then cl .f64 0 else sinC b) else none
theorem sinW_fits {b : Nat} : fits (sinW (cl .f64 b)) = true := by
  rcases h : cl .f64 b with _ | c
  · rfl
  unfold sinW
  dsimp only
  split
  · split
    · rfl
    · rename_i h1 h2
      exact fits_of_le ((sinC_le ⟨cl_idem h, by omega⟩).mono (by decide))
  · rfl
theorem sinW_no {a : Nat} (h : isFin .f32 (cl .f32 a) = false) : sinW (widen (cl .f32 a)) = none := by
  rw [← isFin_widen] at h
  rcases hw : widen (cl .f32 a) with _ | b
  · rfl
  rw [hw] at h
  unfold sinW
  dsimp only
  rw [h]; rfl
theorem sinW_far {b : Nat} (hf : isFin .f64 (some b) = true) (h : 1075 * 2 ^ 52 ≤ rung FloatKind.f64.format b) : sinW (some b) = cl .f64 0 := by
  unfold sinW
  dsimp only
  rw [hf, if_pos rfl, if_pos h]
theorem sinW_near {b : Nat} (hf : isFin .f64 (some b) = true) (h : ¬ 1075 * 2 ^ 52 ≤ rung FloatKind.f64.format b) : sinW (some b) = sinC b := by
  unfold sinW
  dsimp only
  rw [hf, if_pos rfl, if_neg h]
/-- The three ways of 'SineTurns'. -/
theorem sin_ways (a : Nat) : (isFin .f32 (cl .f32 a) = false ∧ sinW (widen (cl .f32 a)) = none) ∨ ∃ b, widen (cl .f32 a) = some b ∧ isFin .f32 (cl .f32 a) = true ∧ isFin .f64 (cl .f64 b) = true ∧ cl .f64 b = some b ∧
    ((1075 * 2 ^ 52 ≤ rung FloatKind.f64.format b ∧ sinW (some b) = cl .f64 0) ∨ (Tur b ∧ sinW (some b) = sinC b)) := by
  cases hf : isFin .f32 (cl .f32 a)
  · exact .inl ⟨rfl, sinW_no hf⟩
  · right
    rcases hc : cl .f32 a with _ | c
    · rw [hc] at hf; exact absurd hf (by decide)
    obtain ⟨b, hb, hb2, -⟩ := widen_cl hc
    have hf2 := isFin_widen a
    rw [hf, hc, hb] at hf2
    refine ⟨b, hb, rfl, by rw [hb2]; exact hf2, hb2, ?_⟩
    by_cases h : 1075 * 2 ^ 52 ≤ rung FloatKind.f64.format b
    · exact .inl ⟨h, sinW_far hf2 h⟩
    · exact .inr ⟨⟨hb2, by omega⟩, sinW_near hf2 h⟩
end Go.Fl
