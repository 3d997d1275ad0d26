/- Tenths of decibels of the 64ths of small integers: intervals that the kernel computes; those of a product are those of both factors, but for one. -/
import Derived.Test.YtabacjajikiaoaaIvq
namespace Go.Fl
open Ieee Go.RowKit Go.Deep

theorem Ivs.le {s : Bool} {c : Option Nat} {a b : Nat} (h : Ivs s c a b) : a ≤ b := by
  have := Iv.le h
  unfold sgl sgh at this
  cases s <;> simp only [if_true, if_false, Bool.false_eq_true] at this <;> omega
theorem sgl_abs {s : Bool} {a b N : Nat} (ha : a < N) (hb : b < N) : (sgl s a b).natAbs < N := by
  unfold sgl
  cases s
  · exact ha
  · show (-(b : Int)).natAbs < N
    rw [Int.natAbs_neg]; exact hb
theorem sgh_abs {s : Bool} {a b N : Nat} (ha : a < N) (hb : b < N) : (sgh s a b).natAbs < N := by
  unfold sgh
  cases s
  · exact hb
  · show (-(a : Int)).natAbs < N
    rw [Int.natAbs_neg]; exact ha
theorem Ivs.mul {s t : Bool} {c d : Option Nat} {a b e f A B : Nat} (hc : Ivs s c a b) (hd : Ivs t d e f) (hA : A * 17592186044416 ≤ a * e) (hB : b * f ≤ B * 17592186044416) (rA : A < 9007199254740992) (rB : B < 9007199254740992) :
    Ivs (s ^^ t) (fop .mul .f64 c d) A B := by
  have h1 := hc.le
  have h2 := hd.le
  have q1 : a * e ≤ a * f := Nat.mul_le_mul_left _ h2
  have q2 : a * e ≤ b * e := Nat.mul_le_mul_right _ h1
  have q3 : a * f ≤ b * f := Nat.mul_le_mul_right _ h1
  have q4 : b * e ≤ b * f := Nat.mul_le_mul_left _ h2
  have i1 : (A : Int) * 17592186044416 ≤ (a : Int) * e := by
    have := Int.ofNat_le.2 hA
    rw [Int.natCast_mul, Int.natCast_mul] at this
    exact this
  have i2 : (b : Int) * f ≤ (B : Int) * 17592186044416 := by
    have := Int.ofNat_le.2 hB
    rw [Int.natCast_mul, Int.natCast_mul] at this
    exact this
  have j1 : (a : Int) * e ≤ (a : Int) * f := by exact_mod_cast q1
  have j2 : (a : Int) * e ≤ (b : Int) * e := by exact_mod_cast q2
  have j3 : (a : Int) * f ≤ (b : Int) * f := by exact_mod_cast q3
  have j4 : (b : Int) * e ≤ (b : Int) * f := by exact_mod_cast q4
  unfold Ivs at *
  refine hc.mul hd (rep64 ?_) (rep64 ?_) ?_ ?_ ?_ ?_ ?_ ?_ ?_ ?_
  · exact sgl_abs rA rB
  · exact sgh_abs rA rB
  all_goals
    try unfold sgl
    try unfold sgh
    cases s <;> cases t <;> simp only [Bool.xor_false, Bool.xor_true, Bool.not_false, Bool.not_true, if_true, if_false, Bool.false_eq_true, Int.neg_mul, Int.mul_neg, Int.neg_neg] <;> omega
theorem Ivs.add {c d : Option Nat} {a b e f : Nat} (hc : Ivs false c a b) (hd : Ivs false d e f) (r : b + f < 9007199254740992) : Ivs false (fop .add .f64 c d) (a + e) (b + f) := by
  have h1 := hc.le
  have h2 := hd.le
  have e1 : sgl false a b + sgl false e f = sgl false (a + e) (b + f) := (Int.natCast_add a e).symm
  have e2 : sgh false a b + sgh false e f = sgh false (a + e) (b + f) := (Int.natCast_add b f).symm
  have := Iv.add hc hd (rep64 (by rw [e1]; exact sgl_abs (by omega) (by omega))) (rep64 (by rw [e2]; exact sgh_abs (by omega) (by omega)))
  rw [e1, e2] at this
  exact this
theorem Ivs.mono {s : Bool} {c : Option Nat} {a b a' b' : Nat} (h : Ivs s c a b) (h1 : a' ≤ a) (h2 : b ≤ b') : Ivs s c a' b' := by
  refine Iv.mono h ?_ ?_
  · unfold sgl; cases s <;> simp only [if_true, if_false, Bool.false_eq_true] <;> omega
  · unfold sgh; cases s <;> simp only [if_true, if_false, Bool.false_eq_true] <;> omega

/-! Words. -/
theorem word_iv {E k M L H : Nat} (hk : k + E = 1030) (m1 : 4503599627370496 ≤ M) (m2 : M < 9007199254740992) (h1 : L * 2 ^ k ≤ M) (h2 : M ≤ H * 2 ^ k) : Ivs false (cl .f64 (E * 4503599627370496 + M)) L H := by
  have hlt : E * 4503599627370496 + M < 2047 * 2 ^ 52 := by omega
  have hv := val_parts FloatKind.f64.format (E := E) (M := M) (by show M < 2 * 2 ^ 52; omega) (fun _ => by show 2 ^ 52 ≤ M; omega)
  have hb : FloatKind.f64.format.binade = 4503599627370496 := by decide
  rw [hb] at hv
  obtain ⟨s1, s2⟩ := pos_word (r := E * 4503599627370496 + M) (by omega)
  have hz : vz .f64 (E * 4503599627370496 + M) = ((M * 2 ^ E : Nat) : Int) := by
    unfold vz
    rw [s1, s2, hv]; rfl
  have hg : gz .f64 = 2 ^ k * 2 ^ E := by
    unfold gz
    rw [← Nat.pow_add, hk]
    congr 1
  refine ⟨_, cl_pos hlt, by rw [s2, inf64]; exact hlt, ?_, ?_⟩
  · rw [hz, hg]
    show ((L : Nat) : Int) * ((2 ^ k * 2 ^ E : Nat) : Int) ≤ _
    have := Nat.mul_le_mul_right (2 ^ E) h1
    rw [Nat.mul_assoc] at this
    exact_mod_cast this
  · rw [hz, hg]
    show _ ≤ ((H : Nat) : Int) * ((2 ^ k * 2 ^ E : Nat) : Int)
    have := Nat.mul_le_mul_right (2 ^ E) h2
    rw [Nat.mul_assoc] at this
    exact_mod_cast this
theorem one_iv : Ivs false c1 17592186044416 17592186044416 := by
  have := word_iv (E := 1022) (k := 8) (M := 4503599627370496) (L := 17592186044416) (H := 17592186044416) (by decide) (by decide) (by decide) (by decide) (by decide)
  exact this
theorem two_iv : Ivs false (cl .f64 4611686018427387904) 35184372088832 35184372088832 := by
  have := word_iv (E := 1023) (k := 7) (M := 4503599627370496) (L := 35184372088832) (H := 35184372088832) (by decide) (by decide) (by decide) (by decide) (by decide)
  exact this
theorem half_iv : Ivs false (cl .f64 4602678819172646912) 8796093022208 8796093022208 := by
  have := word_iv (E := 1021) (k := 9) (M := 4503599627370496) (L := 8796093022208) (H := 8796093022208) (by decide) (by decide) (by decide) (by decide) (by decide)
  exact this
theorem ln2_iv : Ivs false (cl .f64 4604418534313441775) 12193974156572 12193974156573 := by
  have := word_iv (E := 1021) (k := 9) (M := 4604418534313441775 - 1021 * 4503599627370496) (L := 12193974156572) (H := 12193974156573) (by decide) (by decide) (by decide) (by decide) (by decide)
  exact this
theorem ten_iv : Ivs false (cl .f64 4631308968768463603) 764018932370526 764018932370527 := by
  have := word_iv (E := 1027) (k := 3) (M := 4631308968768463603 - 1027 * 4503599627370496) (L := 764018932370526) (H := 764018932370527) (by decide) (by decide) (by decide) (by decide) (by decide)
  exact this
theorem int_iv {k : Nat} (hk : k ≤ 100) : Ivs false (i2f (k : Int)) (k * 17592186044416) (k * 17592186044416) := by
  have := isZ_iv (isZ_cl .f64 (n := (k : Int)) (roomy64 (by omega)))
  have e : ((k * 17592186044416 : Nat) : Int) = (k : Int) * 17592186044416 := Int.natCast_mul k 17592186044416
  show Iv .f64 _ ((k * 17592186044416 : Nat) : Int) ((k * 17592186044416 : Nat) : Int)
  rw [e]
  exact this
theorem K_iv {j k : Nat} (h : (25 : Int) - 2 * (j : Int) = (k : Int)) (h1 : 1 ≤ k) (h2 : k ≤ 25) : Ivs false (fop .quo .f64 c1 (i2f (25 - 2 * (j : Int)))) (17592186044416 / k) (17592186044416 / k + 1) := by
  rw [h]
  have hd := Nat.div_add_mod 17592186044416 k
  have hm := Nat.mod_lt 17592186044416 h1
  refine one_iv.quo (int_iv (by omega)) (by omega) ?_ ?_ (by omega) ?_ ?_
  · rw [← Nat.mul_assoc]
    exact Nat.mul_le_mul_right _ (Nat.div_mul_le_self _ _)
  · rw [← Nat.mul_assoc]
    refine Nat.mul_le_mul_right _ ?_
    rw [Nat.add_mul, Nat.one_mul, Nat.mul_comm]
    omega
  · have := Nat.div_le_self 17592186044416 k; omega
  · have := Nat.div_le_self 17592186044416 k; omega

/-! What the kernel computes. -/
def lnL (e : Int) : Int := if e < 0 then e * 12193974156573 else e * 12193974156572
def lnH (e : Int) : Int := if e < 0 then e * 12193974156572 else e * 12193974156573
def tLo (lo : Int) : Int := ((if lo < 0 then lo * 764018932370527 else lo * 764018932370526) / 17592186044416 + 8796093022208) / 17592186044416
def tHi (hi : Int) : Int := ((if hi < 0 then hi * 764018932370526 else hi * 764018932370527) / 17592186044416 + 1 + 8796093022208) / 17592186044416
def q1H (uh : Nat) : Nat := 3518437208883 + 1 + (uh * 2 + 1)
def q2L (ul : Nat) : Nat := 5864062014805 + ul * 3518437208883 / 17592186044416
def q2H (uh : Nat) : Nat := 5864062014805 + 1 + (uh * q1H uh / 17592186044416 + 1)
def q3L (ul : Nat) : Nat := 17592186044416 + ul * q2L ul / 17592186044416
def q3H (uh : Nat) : Nat := 17592186044416 + 1 + (uh * q2H uh / 17592186044416 + 1)
def gL (a : Nat) : Nat := 2 * (a * q3L (a * a / 17592186044416) / 17592186044416)
def gH (b : Nat) : Nat := 2 * (b * q3H (b * b / 17592186044416 + 1) / 17592186044416 + 1)
def tOk (d : Int) (neg : Bool) (e : Int) (a : Nat) (t : Int) : Bool := decide (t ≤ tLo (sgl neg (gL a) (gH (a + 1)) + lnL e) + d) && decide (tHi (sgh neg (gL a) (gH (a + 1)) + lnH e) ≤ t + d)
def pOk (d : Int) (n : Nat) (t : Int) : Bool :=
  if 2 * (n * 2 ^ (44 - n.log2)) < 3 * 17592186044416 then tOk d false ((n.log2 : Int) - 6) ((n * 2 ^ (44 - n.log2) - 17592186044416) * 17592186044416 / (n * 2 ^ (44 - n.log2) + 17592186044416)) t
  else tOk d true ((n.log2 : Int) - 5) ((17592186044416 - n * 2 ^ (43 - n.log2)) * 17592186044416 / (n * 2 ^ (43 - n.log2) + 17592186044416)) t

theorem mul_div_le (x y : Nat) : x * y / 17592186044416 * 17592186044416 ≤ x * y := Nat.div_mul_le_self _ _
theorem le_mul_div (x y : Nat) : x * y ≤ (x * y / 17592186044416 + 1) * 17592186044416 := by omega
/-- The series, from the bounds of its number. -/
theorem logP_crude {u : Option Nat} {ul uh : Nat} (hu : Ivs false u ul uh) (h : uh ≤ 1099511627776) : ∀ j, j ≤ 10 → Ivs false (logP u j) 0 35184372088832
  | 0, _ => by
    have h0 : Ivs false (cl .f64 0) 0 0 := by
      have := isZ_iv (isZ_cl .f64 (n := 0) (roomy64 (by decide)))
      exact this
    exact h0.mono (Nat.le_refl _) (Nat.zero_le _)
  | j + 1, hj => by
    have ih := logP_crude hu h j (by omega)
    have hm := hu.mul ih (A := 0) (B := 2199023255552) (by rw [Nat.zero_mul]; exact Nat.zero_le _) (by
      have := Nat.mul_le_mul_right 35184372088832 h
      omega) (by decide) (by decide)
    have hk := K_iv (j := j) (k := 25 - 2 * j) (by omega) (by omega) (by omega)
    have hd := Nat.div_le_self 17592186044416 (25 - 2 * j)
    exact (hk.add hm (by omega)).mono (Nat.zero_le _) (by omega)
theorem logP_iv {u : Option Nat} {ul uh : Nat} (hu : Ivs false u ul uh) (h : uh ≤ 1099511627776) : Ivs false (logP u 13) (q3L ul) (q3H uh) := by
  have hl := hu.le
  have p0 := logP_crude hu h 10 (Nat.le_refl _)
  have m1 := hu.mul p0 (A := 0) (B := uh * 2 + 1) (by rw [Nat.zero_mul]; exact Nat.zero_le _) (by omega) (by decide) (by omega)
  have p1 := (K_iv (j := 10) (k := 5) (by decide) (by decide) (by decide)).add m1 (by omega)
  have b1 : q1H uh ≤ 10000000000000 := by unfold q1H; omega
  have p1' : Ivs false (logP u 11) 3518437208883 (q1H uh) := p1.mono (by decide) (Nat.le_refl _)
  have e2 : uh * q1H uh / 17592186044416 ≤ 1000000000000 := Nat.div_le_of_le_mul (Nat.le_trans (Nat.mul_le_mul h b1) (by decide))
  have e2' : ul * 3518437208883 / 17592186044416 ≤ 1000000000000 := Nat.div_le_of_le_mul (Nat.le_trans (Nat.mul_le_mul_right _ (Nat.le_trans hl h)) (by decide))
  have m2 := hu.mul p1' (A := ul * 3518437208883 / 17592186044416) (B := uh * q1H uh / 17592186044416 + 1) (mul_div_le _ _) (le_mul_div _ _) (by omega) (by omega)
  have p2 : Ivs false (logP u 12) (q2L ul) (q2H uh) := (K_iv (j := 11) (k := 3) (by decide) (by decide) (by decide)).add m2 (by omega)
  have b2 : q2H uh ≤ 10000000000000 := by unfold q2H; omega
  have b2' : q2L ul ≤ 10000000000000 := by unfold q2L; omega
  have e3 : uh * q2H uh / 17592186044416 ≤ 1000000000000 := Nat.div_le_of_le_mul (Nat.le_trans (Nat.mul_le_mul h b2) (by decide))
  have e3' : ul * q2L ul / 17592186044416 ≤ 1000000000000 := Nat.div_le_of_le_mul (Nat.le_trans (Nat.mul_le_mul (Nat.le_trans hl h) b2') (by decide))
  have m3 := hu.mul p2 (A := ul * q2L ul / 17592186044416) (B := uh * q2H uh / 17592186044416 + 1) (mul_div_le _ _) (le_mul_div _ _) (by omega) (by omega)
  exact (K_iv (j := 12) (k := 1) (by decide) (by decide) (by decide)).add m3 (by omega)
/-- Twice the quotient times the series. -/
theorem logG_iv {s : Bool} {c : Option Nat} {a : Nat} (hs : Ivs s c a (a + 1)) (ha : a ≤ 3600000000000) : Ivs s (fop .mul .f64 (cl .f64 4611686018427387904) (fop .mul .f64 c (logP (fop .mul .f64 c c) 13))) (gL a) (gH (a + 1)) ∧ gH (a + 1) ≤ 20000000000000 := by
  have s1 : a * a ≤ 3600000000000 * 3600000000000 := Nat.mul_le_mul ha ha
  have s2 : (a + 1) * (a + 1) ≤ 3600000000001 * 3600000000001 := Nat.mul_le_mul (by omega) (by omega)
  have u0 := hs.mul hs (A := a * a / 17592186044416) (B := (a + 1) * (a + 1) / 17592186044416 + 1) (mul_div_le _ _) (le_mul_div _ _) (by omega) (by omega)
  rw [Bool.xor_self] at u0
  have hu : (a + 1) * (a + 1) / 17592186044416 + 1 ≤ 1099511627776 := by omega
  have hp := logP_iv u0 hu
  have hul : a * a / 17592186044416 ≤ 1099511627776 := by omega
  generalize fop .mul .f64 c c = u at u0 hp
  unfold gL gH
  generalize a * a / 17592186044416 = ul at u0 hp hul ⊢
  generalize (a + 1) * (a + 1) / 17592186044416 + 1 = uh at u0 hp hu ⊢
  have b1 : q1H uh ≤ 10000000000000 := by unfold q1H; omega
  have b2 : q2H uh ≤ 10000000000000 := by
    have : uh * q1H uh / 17592186044416 ≤ 1000000000000 := Nat.div_le_of_le_mul (Nat.le_trans (Nat.mul_le_mul hu b1) (by decide))
    unfold q2H; omega
  have b3 : q3H uh ≤ 20000000000000 := by
    have : uh * q2H uh / 17592186044416 ≤ 1000000000000 := Nat.div_le_of_le_mul (Nat.le_trans (Nat.mul_le_mul hu b2) (by decide))
    unfold q3H; omega
  have c3 := hp.le
  have e1 : a * q3L ul / 17592186044416 ≤ 5000000000000 := Nat.div_le_of_le_mul (Nat.le_trans (Nat.mul_le_mul ha (Nat.le_trans c3 b3)) (by decide))
  have e2 : (a + 1) * q3H uh / 17592186044416 ≤ 5000000000000 := Nat.div_le_of_le_mul (Nat.le_trans (Nat.mul_le_mul (show a + 1 ≤ 3600000000001 by omega) b3) (by decide))
  have m1 := hs.mul hp (A := a * q3L ul / 17592186044416) (B := (a + 1) * q3H uh / 17592186044416 + 1) (mul_div_le _ _) (le_mul_div _ _) (by omega) (by omega)
  have m2 := two_iv.mul m1 (A := 2 * (a * q3L ul / 17592186044416)) (B := 2 * ((a + 1) * q3H uh / 17592186044416 + 1)) (by omega) (by omega) (by omega) (by omega)
  rw [Bool.xor_false, Bool.false_xor] at m2
  exact ⟨m2, by omega⟩
/-! The word of n 64ths. -/
def Dn (n : Nat) : Nat := (n.log2 + 1016) * 4503599627370496 + n * 2 ^ (52 - n.log2)
theorem mant {n : Nat} (h1 : 1 ≤ n) (h2 : n ≤ 65535) : n.log2 ≤ 15 ∧ 4503599627370496 ≤ n * 2 ^ (52 - n.log2) ∧ n * 2 ^ (52 - n.log2) < 9007199254740992 ∧ n * 2 ^ (52 - n.log2) = n * 2 ^ (44 - n.log2) * 256 ∧ n * 2 ^ (52 - n.log2) = n * 2 ^ (43 - n.log2) * 512 := by
  have h0 : n ≠ 0 := by omega
  have hl : n.log2 ≤ 15 := by
    have := (Nat.log2_lt h0).2 (show n < 2 ^ 16 by omega)
    omega
  have a1 := Nat.log2_self_le h0
  have a2 : n < 2 ^ (n.log2 + 1) := Nat.lt_log2_self
  have e1 : (2 : Nat) ^ n.log2 * 2 ^ (52 - n.log2) = 4503599627370496 := by
    rw [← Nat.pow_add, show n.log2 + (52 - n.log2) = 52 by omega]
  have e2 : (2 : Nat) ^ (n.log2 + 1) * 2 ^ (52 - n.log2) = 9007199254740992 := by
    rw [← Nat.pow_add, show n.log2 + 1 + (52 - n.log2) = 53 by omega]
  refine ⟨hl, by rw [← e1]; exact Nat.mul_le_mul_right _ a1, by rw [← e2]; exact Nat.mul_lt_mul_of_pos_right a2 (Nat.two_pow_pos _), ?_, ?_⟩
  · rw [Nat.mul_assoc, show (256 : Nat) = 2 ^ 8 by decide, ← Nat.pow_add]; congr 2; omega
  · rw [Nat.mul_assoc, show (512 : Nat) = 2 ^ 9 by decide, ← Nat.pow_add]; congr 2; omega
theorem log_low {l M : Nat} (hl : l ≤ 15) (m1 : 4503599627370496 ≤ M) (m2 : 2 * M < 3 * 4503599627370496) :
    logW ((l + 1016) * 4503599627370496 + M) = 1022 * 4503599627370496 + M ∧ ((logE ((l + 1016) * 4503599627370496 + M) : Int) - (logD ((l + 1016) * 4503599627370496 + M) : Int)) = (l : Int) - 6 := by
  have hE : logE ((l + 1016) * 4503599627370496 + M) = l - 6 := by unfold logE; omega
  have hA : logA ((l + 1016) * 4503599627370496 + M) = (l + 1016) * 4503599627370496 + M - (l - 6) * 4503599627370496 := by unfold logA; rw [hE]
  have hD : logD ((l + 1016) * 4503599627370496 + M) = 6 - l := by unfold logD; rw [hA]; omega
  unfold logW
  rw [hE, hA, hD]
  omega
theorem log_high {l M : Nat} (hl : l ≤ 15) (m1 : 3 * 4503599627370496 ≤ 2 * M) (m2 : M < 9007199254740992) :
    logW ((l + 1016) * 4503599627370496 + M) = 1021 * 4503599627370496 + M ∧ ((logE ((l + 1016) * 4503599627370496 + M) : Int) - (logD ((l + 1016) * 4503599627370496 + M) : Int)) = (l : Int) - 5 := by
  have hE : logE ((l + 1016) * 4503599627370496 + M) = l - 5 := by unfold logE; omega
  have hA : logA ((l + 1016) * 4503599627370496 + M) = (l + 1016) * 4503599627370496 + M - (l - 5) * 4503599627370496 := by unfold logA; rw [hE]
  have hD : logD ((l + 1016) * 4503599627370496 + M) = 5 - l := by unfold logD; rw [hA]; omega
  unfold logW
  rw [hE, hA, hD]
  omega
theorem int_iv' {e : Int} (h1 : -100 ≤ e) (h2 : e ≤ 100) : Iv .f64 (i2f e) (e * 17592186044416) (e * 17592186044416) := isZ_iv (isZ_cl .f64 (roomy64 (by omega)))
theorem logE_iv {s : Bool} {g : Option Nat} {a b : Nat} (hG : Ivs s g a b) (hb : b ≤ 20000000000000) {e : Int} (e1 : -6 ≤ e) (e2 : e ≤ 10) :
    Iv .f64 (fop .add .f64 g (fop .mul .f64 (i2f e) (cl .f64 4604418534313441775))) (sgl s a b + lnL e) (sgh s a b + lnH e) ∧ -200000000000000 ≤ sgl s a b + lnL e ∧ sgh s a b + lnH e ≤ 200000000000000 := by
  have hab := hG.le
  have hL : -100000000000000 ≤ lnL e ∧ lnL e ≤ 200000000000000 - 30000000000000 := by unfold lnL; split <;> omega
  have hH : -100000000000000 ≤ lnH e ∧ lnH e ≤ 200000000000000 - 30000000000000 := by unfold lnH; split <;> omega
  have hm : Iv .f64 (fop .mul .f64 (i2f e) (cl .f64 4604418534313441775)) (lnL e) (lnH e) := by
    have h := int_iv' (e := e) (by omega) (by omega)
    have k : Iv .f64 (cl .f64 4604418534313441775) 12193974156572 12193974156573 := ln2_iv
    refine h.mul k (rep64 (by omega)) (rep64 (by omega)) ?_ ?_ ?_ ?_ ?_ ?_ ?_ ?_
    all_goals
      first
        | (unfold lnL; split <;> omega)
        | (unfold lnH; split <;> omega)
  have hs : -20000000000000 ≤ sgl s a b ∧ sgh s a b ≤ 20000000000000 ∧ sgl s a b ≤ 20000000000000 ∧ -20000000000000 ≤ sgh s a b := by
    unfold sgl sgh
    cases s <;> simp only [if_true, if_false, Bool.false_eq_true] <;> omega
  exact ⟨Iv.add hG hm (rep64 (by omega)) (rep64 (by omega)), by omega, by omega⟩
theorem tenY_iv {g : Option Nat} {l h : Int} (hg : Iv .f64 g l h) (hl : -200000000000000 ≤ l) (hh : h ≤ 200000000000000) :
    tLo l ≤ floI (fop .add .f64 (fop .mul .f64 g (cl .f64 4631308968768463603)) (cl .f64 4602678819172646912)) ∧ floI (fop .add .f64 (fop .mul .f64 g (cl .f64 4631308968768463603)) (cl .f64 4602678819172646912)) ≤ tHi h := by
  have hlh := hg.le
  have k : Iv .f64 (cl .f64 4631308968768463603) 764018932370526 764018932370527 := ten_iv
  have k2 : Iv .f64 (cl .f64 4602678819172646912) 8796093022208 8796093022208 := half_iv
  obtain ⟨L, hL⟩ : ∃ L : Int, L = (if l < 0 then l * 764018932370527 else l * 764018932370526) / 17592186044416 := ⟨_, rfl⟩
  obtain ⟨H, hH⟩ : ∃ H : Int, H = (if h < 0 then h * 764018932370526 else h * 764018932370527) / 17592186044416 + 1 := ⟨_, rfl⟩
  have hL2 : (l < 0 → L * 17592186044416 ≤ l * 764018932370527 ∧ l * 764018932370527 < L * 17592186044416 + 17592186044416) ∧ (¬ l < 0 → L * 17592186044416 ≤ l * 764018932370526 ∧ l * 764018932370526 < L * 17592186044416 + 17592186044416) := by
    constructor
    · intro h0; rw [if_pos h0] at hL; omega
    · intro h0; rw [if_neg h0] at hL; omega
  have hH2 : (h < 0 → h * 764018932370526 ≤ H * 17592186044416 ∧ H * 17592186044416 ≤ h * 764018932370526 + 17592186044416) ∧ (¬ h < 0 → h * 764018932370527 ≤ H * 17592186044416 ∧ H * 17592186044416 ≤ h * 764018932370527 + 17592186044416) := by
    constructor
    · intro h0; rw [if_pos h0] at hH; omega
    · intro h0; rw [if_neg h0] at hH; omega
  have hm : Iv .f64 (fop .mul .f64 g (cl .f64 4631308968768463603)) L H := by
    obtain ⟨a1, a2⟩ := hL2
    obtain ⟨b1, b2⟩ := hH2
    by_cases c1 : l < 0 <;> by_cases c2 : h < 0 <;> simp only [c1, c2, true_implies, false_implies, not_true, not_false_iff] at a1 a2 b1 b2 <;> exact hg.mul k (rep64 (by omega)) (rep64 (by omega)) (by omega) (by omega) (by omega) (by omega) (by omega) (by omega) (by omega) (by omega)
  have bL : L.natAbs < 9000000000000000 - 10000000000000 := by
    obtain ⟨a1, a2⟩ := hL2
    by_cases c1 : l < 0
    · have := a1 c1; omega
    · have := a2 c1; omega
  have bH : H.natAbs < 9000000000000000 - 10000000000000 := by
    obtain ⟨a1, a2⟩ := hH2
    by_cases c1 : h < 0
    · have := a1 c1; omega
    · have := a2 c1; omega
  have hy := hm.add k2 (rep64 (by omega)) (rep64 (by omega))
  unfold tLo tHi
  rw [← hL, ← hH]
  exact floI_bounds hy (by omega) (by omega) (by omega) (by omega)
theorem ten_tail {s : Bool} {y : Option Nat} {a : Nat} {e d t : Int} (hs : Ivs s (logS y) a (a + 1)) (ha : a ≤ 3600000000000) (e1 : -6 ≤ e) (e2 : e ≤ 10) (h : tOk d s e a t = true) :
    t - d ≤ floI (fop .add .f64 (fop .mul .f64 (logOut y e) (cl .f64 4631308968768463603)) (cl .f64 4602678819172646912)) ∧ floI (fop .add .f64 (fop .mul .f64 (logOut y e) (cl .f64 4631308968768463603)) (cl .f64 4602678819172646912)) ≤ t + d := by
  obtain ⟨hG, hgb⟩ := logG_iv hs ha
  have hE := logE_iv hG hgb e1 e2
  have hT := tenY_iv hE.1 hE.2.1 hE.2.2
  unfold tOk at h
  rw [Bool.and_eq_true, decide_eq_true_eq, decide_eq_true_eq] at h
  unfold logOut
  generalize tLo (sgl s (gL a) (gH (a + 1)) + lnL e) = A at hT h
  generalize tHi (sgh s (gL a) (gH (a + 1)) + lnH e) = B at hT h
  exact ⟨by have := hT.1; omega, by have := hT.2; omega⟩
theorem quot_up (N D : Nat) (h : 0 < D) : N ≤ (N / D + 1) * D := by
  have hdm := Nat.div_add_mod N D
  have hmm := Nat.mod_lt N h
  rw [Nat.add_mul, Nat.one_mul, Nat.mul_comm (N / D)]
  omega
theorem logS_low {y : Option Nat} {hh : Nat} (hy : Ivs false y hh hh) (h1 : 17592186044416 ≤ hh) (h2 : 2 * hh < 3 * 17592186044416) :
    Ivs false (logS y) ((hh - 17592186044416) * 17592186044416 / (hh + 17592186044416)) ((hh - 17592186044416) * 17592186044416 / (hh + 17592186044416) + 1) ∧ (hh - 17592186044416) * 17592186044416 / (hh + 17592186044416) ≤ 3600000000000 := by
  have hx1 : Ivs false (fop .sub .f64 y c1) (hh - 17592186044416) (hh - 17592186044416) := by
    have := Iv.sub hy one_iv (rep64 (by show ((hh : Int) - ((17592186044416 : Nat) : Int)).natAbs < _; omega)) (rep64 (by show ((hh : Int) - ((17592186044416 : Nat) : Int)).natAbs < _; omega))
    have e : sgl false hh hh - sgh false 17592186044416 17592186044416 = sgl false (hh - 17592186044416) (hh - 17592186044416) := by
      show (hh : Int) - ((17592186044416 : Nat) : Int) = ((hh - 17592186044416 : Nat) : Int); omega
    have e2 : sgh false hh hh - sgl false 17592186044416 17592186044416 = sgh false (hh - 17592186044416) (hh - 17592186044416) := e
    rw [e, e2] at this
    exact this
  have hx2 := hy.add one_iv (by omega)
  have ha2 : (hh - 17592186044416) * 17592186044416 / (hh + 17592186044416) ≤ 3600000000000 := Nat.div_le_of_le_mul (by omega)
  exact ⟨hx1.quo hx2 (by omega) (Nat.div_mul_le_self _ _) (quot_up _ _ (by omega)) (by omega) (by omega) (by omega), ha2⟩
theorem logS_high' {y : Option Nat} {hh D : Nat} (hy : Ivs false y hh hh) (hD : D + hh = 17592186044416) (h2 : 3 * 17592186044416 ≤ 4 * hh) :
    Ivs true (logS y) (D * 17592186044416 / (hh + 17592186044416)) (D * 17592186044416 / (hh + 17592186044416) + 1) ∧ D * 17592186044416 / (hh + 17592186044416) ≤ 3600000000000 := by
  have hx1 : Ivs true (fop .sub .f64 y c1) D D := by
    have := Iv.sub hy one_iv (rep64 (by show ((hh : Int) - ((17592186044416 : Nat) : Int)).natAbs < _; omega)) (rep64 (by show ((hh : Int) - ((17592186044416 : Nat) : Int)).natAbs < _; omega))
    have e : sgl false hh hh - sgh false 17592186044416 17592186044416 = sgl true D D := by
      show (hh : Int) - ((17592186044416 : Nat) : Int) = -(D : Int); omega
    have e2 : sgh false hh hh - sgl false 17592186044416 17592186044416 = sgh true D D := e
    rw [e, e2] at this
    exact this
  have hx2 := hy.add one_iv (by omega)
  have ha2 : D * 17592186044416 / (hh + 17592186044416) ≤ 3600000000000 := by
    have h4 : D ≤ 4398046511104 := by omega
    have h5 : 30786325577728 ≤ hh + 17592186044416 := by omega
    refine Nat.div_le_of_le_mul (Nat.le_trans (Nat.mul_le_mul_right _ h4) (Nat.le_trans ?_ (Nat.mul_le_mul_right _ h5)))
    decide
  exact ⟨hx1.quo hx2 (by omega) (Nat.div_mul_le_self _ _) (quot_up _ _ (by omega)) (by omega) (by omega) (by omega), ha2⟩
theorem logS_high {y : Option Nat} {hh : Nat} (hy : Ivs false y hh hh) (h1 : hh ≤ 17592186044416) (h2 : 3 * 17592186044416 ≤ 4 * hh) :
    Ivs true (logS y) ((17592186044416 - hh) * 17592186044416 / (hh + 17592186044416)) ((17592186044416 - hh) * 17592186044416 / (hh + 17592186044416) + 1) ∧ (17592186044416 - hh) * 17592186044416 / (hh + 17592186044416) ≤ 3600000000000 :=
  logS_high' hy (Nat.sub_add_cancel h1) h2
theorem tenI_eq {r y : Nat} {e : Int} (w1 : logW r = y) (w2 : ((logE r : Int) - (logD r : Int)) = e) : tenI r = floI (fop .add .f64 (fop .mul .f64 (logOut (cl .f64 y) e) (cl .f64 4631308968768463603)) (cl .f64 4602678819172646912)) := by
  unfold tenI tenY logC
  rw [w1, w2]
/-- What the kernel's bounds say of tenths. -/
theorem ten_n {n : Nat} {d t : Int} (h1 : 1 ≤ n) (h2 : n ≤ 65535) (h : pOk d n t = true) : t - d ≤ tenI (Dn n) ∧ tenI (Dn n) ≤ t + d := by
  obtain ⟨hl, m1, m2, m3, m4⟩ := mant h1 h2
  unfold pOk at h
  unfold Dn
  generalize n.log2 = l at *
  generalize n * 2 ^ (52 - l) = M at *
  split at h
  · rename_i hlow
    generalize n * 2 ^ (44 - l) = hh at *
    obtain ⟨w1, w2⟩ := log_low (M := M) hl m1 (by omega)
    have hy := word_iv (E := 1022) (k := 8) (M := M) (L := hh) (H := hh) (by decide) m1 m2 (by omega) (by omega)
    obtain ⟨hs, ha⟩ := logS_low hy (by omega) (by omega)
    rw [tenI_eq w1 w2]
    exact ten_tail hs ha (by omega) (by omega) h
  · rename_i hhigh
    generalize n * 2 ^ (43 - l) = hh at *
    obtain ⟨w1, w2⟩ := log_high (M := M) hl (by omega) m2
    have hy := word_iv (E := 1021) (k := 9) (M := M) (L := hh) (H := hh) (by decide) m1 m2 (by omega) (by omega)
    obtain ⟨hs, ha⟩ := logS_high hy (by omega) (by omega)
    rw [tenI_eq w1 w2]
    exact ten_tail hs ha (by omega) (by omega) h
end Go.Fl
