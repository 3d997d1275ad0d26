/- Numbers that are integers, exactly: sums, products, quotients, conversions and comparisons of them; products of complex numbers on classes. -/
import Derived.Test.YtabacjajikiaoaaTur
namespace Go.Fl
open Ieee Go.RowKit Go.Deep

def mulRe (a b c d : Option Nat) : Option Nat := fop .sub .f64 (fop .mul .f64 a c) (fop .mul .f64 b d)
def mulIm (a b c d : Option Nat) : Option Nat := fop .add .f64 (fop .mul .f64 a d) (fop .mul .f64 b c)
def powC (a b : Option Nat) : Option Nat := fop .add .f64 (fop .mul .f64 a a) (fop .mul .f64 b b)

/-- How far the format's least place lies below the units. -/
def lpn : FloatKind → Nat
  | .f32 => 149
  | .f64 => 1074
theorem lp_lpn (k : FloatKind) : k.format.leastPlace = -(lpn k : Int) := by cases k <;> decide
/-- The class of a word that is the integer n (a zero of either sign where n is 0). -/
def IsZ (k : FloatKind) (c : Option Nat) (n : Int) : Prop :=
  ∃ b, c = some b ∧ rung k.format b < k.format.infRung ∧ sg (sgn k.format b) (val k.format (rung k.format b)) = n * 2 ^ lpn k
/-- How great an integer may be, to be kept. -/
def roomy (k : FloatKind) (n : Int) : Prop := n.natAbs < 2 ^ (k.format.fractionBits + 1)
theorem roomy32 {n : Int} (h : n.natAbs < 16777216) : roomy .f32 n := h
theorem roomy64 {n : Int} (h : n.natAbs < 9007199254740992) : roomy .f64 n := h
theorem sg_natAbs {s : Bool} {x : Nat} {n : Int} (h : sg s x = n) : x = n.natAbs ∧ (n < 0 → s = true) ∧ (0 < n → s = false) := by
  unfold sg at h
  cases s
  · simp at h; subst h; refine ⟨by simp, fun h => by omega, fun _ => rfl⟩
  · simp at h; subst h; refine ⟨by simp, fun _ => rfl, fun h => by omega⟩
theorem sg_of {s : Bool} {n : Int} (h1 : n < 0 → s = true) (h2 : 0 < n → s = false) : sg s n.natAbs = n := by
  unfold sg
  rcases Int.lt_trichotomy n 0 with h | h | h
  · rw [h1 h]; simp; omega
  · subst h; cases s <;> rfl
  · rw [h2 h]; simp; omega
theorem sg_mulN (s : Bool) (x y : Nat) : sg s (x * y) = sg s x * (y : Int) := by
  unfold sg; cases s <;> simp [Int.neg_mul]
theorem sg_xor (s t : Bool) (x y : Nat) : sg (s ^^ t) (x * y) = sg s x * sg t y := by
  unfold sg; cases s <;> cases t <;> simp [Int.neg_mul, Int.mul_neg]
theorem isZ_exp (k : FloatKind) (l : Nat) (h : l ≤ k.format.fractionBits) : (0 : Int) + l - k.format.fractionBits - k.format.leastPlace + 3 ≤ 2 ^ k.format.exponentBits := by
  rw [lp_lpn]
  cases k
  · have h1 : l ≤ 23 := h
    show (0 : Int) + l - ((23 : Nat) : Int) - -((149 : Nat) : Int) + 3 ≤ 256
    omega
  · have h1 : l ≤ 52 := h
    show (0 : Int) + l - ((52 : Nat) : Int) - -((1074 : Nat) : Int) + 3 ≤ 2048
    omega
theorem near_int (k : FloatKind) (n : Int) (hn : roomy k n) : val k.format (nearRung k.format n.natAbs 0) = n.natAbs * 2 ^ lpn k ∧ nearRung k.format n.natAbs 0 < k.format.infRung := by
  by_cases h0 : n.natAbs = 0
  · rw [h0, nearRung_zero, val_zero, Nat.zero_mul]
    exact ⟨rfl, by cases k <;> decide⟩
  · have hlog : n.natAbs.log2 ≤ k.format.fractionBits := Nat.lt_succ_iff.1 ((Nat.log2_lt h0).2 hn)
    have := near_val k.format (m := n.natAbs) (p := 0) h0 (by unfold roomy at hn; unfold Format.binade; rw [Nat.pow_succ] at hn; omega) (by rw [lp_lpn]; omega) (isZ_exp k _ hlog) (by cases k <;> decide)
    rw [lp_lpn, show ((0 : Int) - -(lpn k : Int)).toNat = lpn k by omega] at this
    exact this
/-- A written number that is an integer of few digits is kept. -/
theorem isZ_write (k : FloatKind) {s : Bool} {m : Nat} {p : Int} {n : Int} {base : Int} (hb : base ≤ p) (hb2 : base ≤ k.format.leastPlace) (h : sg s (m * 2 ^ (p - base).toNat) = n * (2 ^ (-base).toNat : Nat)) (hn : roomy k n) :
    IsZ k (some (k.format.write (.number s m p))) n := by
  obtain ⟨hv, hi⟩ := near_int k n hn
  have h1 := sg_natAbs h
  have hpos : (0 : Int) < (2 ^ (-base).toNat : Nat) := by exact_mod_cast Nat.two_pow_pos _
  have hr : nearRung k.format m p = nearRung k.format n.natAbs 0 := by
    refine near_exact k.format hb hb2 (Nat.le_of_lt hi) ?_
    rw [h1.1, hv, Int.natAbs_mul, Int.natAbs_natCast, Nat.mul_assoc, ← Nat.pow_add]
    rw [lp_lpn] at hb2 ⊢
    congr 2; omega
  show IsZ k (some (k.format.nearest s m p)) n
  rw [nearest_eq, hr]
  obtain ⟨w1, w2⟩ := sgn_word k s (Nat.le_of_lt hi)
  refine ⟨_, rfl, by rw [w2]; exact hi, ?_⟩
  rw [w1, w2, hv, sg_mulN]
  have : sg s n.natAbs = n := sg_of (fun hneg => h1.2.1 (Int.mul_neg_of_neg_of_pos hneg hpos)) (fun hp => h1.2.2 (Int.mul_pos hp hpos))
  rw [this]; simp
theorem IsZ.read {k : FloatKind} {c : Option Nat} {n : Int} (h : IsZ k c n) : ∃ b m p, c = some b ∧ cl k b = some b ∧ k.format.read b = .number (sgn k.format b) m p ∧ k.format.leastPlace ≤ p ∧ sg (sgn k.format b) (m * 2 ^ (p - k.format.leastPlace).toNat) = n * (2 ^ lpn k : Nat) ∧ m < 2 * k.format.binade := by
  obtain ⟨b, rfl, hr, hv⟩ := h
  obtain ⟨m, p, e, hp, hm, hlt⟩ := read_fin k.format hr
  exact ⟨b, m, p, rfl, cl_of_rung (Nat.le_of_lt hr), e, hp, by rw [hm, hv]; simp, hlt⟩
theorem IsZ.mul {k : FloatKind} {c d : Option Nat} {n m : Int} (hc : IsZ k c n) (hd : IsZ k d m) (hn : roomy k (n * m)) : IsZ k (fop .mul k c d) (n * m) := by
  obtain ⟨a, x, i, rfl, -, e1, hi, h1, -⟩ := hc.read
  obtain ⟨b, y, j, rfl, -, e2, hj, h2, -⟩ := hd.read
  show IsZ k (k.format.mul a b) _
  unfold Format.mul
  rw [e1, e2]
  show IsZ k (some (k.format.write (.number _ (x * y) (i + j)))) _
  rw [lp_lpn] at hi hj h1 h2
  refine isZ_write k (base := -(lpn k + lpn k : Nat)) (by omega) (by rw [lp_lpn]; omega) ?_ hn
  rw [show x * y * 2 ^ (i + j - -((lpn k + lpn k : Nat) : Int)).toNat = (x * 2 ^ (i - -(lpn k : Int)).toNat) * (y * 2 ^ (j - -(lpn k : Int)).toNat) by
    rw [show (i + j - -((lpn k + lpn k : Nat) : Int)).toNat = (i - -(lpn k : Int)).toNat + (j - -(lpn k : Int)).toNat by omega, Nat.pow_add]
    simp only [Nat.mul_assoc, Nat.mul_left_comm], sg_xor, h1, h2, show (- -((lpn k + lpn k : Nat) : Int)).toNat = lpn k + lpn k by omega, Nat.pow_add]
  generalize (2 ^ lpn k : Nat) = g
  simp only [Int.natCast_mul, Int.mul_assoc, Int.mul_left_comm, Int.mul_comm]
theorem sum_isZ {k : FloatKind} {s t : Bool} {x y : Nat} {i j : Int} {n m : Int} (hi : k.format.leastPlace ≤ i) (hj : k.format.leastPlace ≤ j) (h1 : sg s (x * 2 ^ (i - k.format.leastPlace).toNat) = n * (2 ^ lpn k : Nat)) (h2 : sg t (y * 2 ^ (j - k.format.leastPlace).toNat) = m * (2 ^ lpn k : Nat)) (hn : roomy k (n + m)) :
    ∃ u v p, (Datum.number s x i).sum (.number t y j) = some (.number u v p) ∧ IsZ k (some (k.format.write (.number u v p))) (n + m) := by
  refine ⟨_, _, _, rfl, ?_⟩
  have hmin : k.format.leastPlace ≤ min i j := by omega
  refine isZ_write k (base := k.format.leastPlace) hmin (Int.le_refl _) ?_ hn
  have hT : (signed s x (i - min i j).toNat + signed t y (j - min i j).toNat) * (2 ^ (min i j - k.format.leastPlace).toNat : Nat) = (n + m) * (2 ^ lpn k : Nat) := by
    rw [Int.add_mul, Int.add_mul, ← h1, ← h2, sg_signed, sg_signed, ← sg_mulN, ← sg_mulN, Nat.mul_assoc, Nat.mul_assoc, ← Nat.pow_add, ← Nat.pow_add]
    congr 4 <;> omega
  generalize hX : signed s x (i - min i j).toNat + signed t y (j - min i j).toNat = X at hT
  rw [show (-k.format.leastPlace).toNat = lpn k by rw [lp_lpn]; omega, ← hT, sg_mulN]
  congr 1
  refine sg_of (fun h => ?_) (fun h => ?_)
  · rw [if_neg (by omega)]; exact decide_eq_true h
  · rw [if_neg (by omega)]; exact decide_eq_false (by omega)
theorem IsZ.add {k : FloatKind} {c d : Option Nat} {n m : Int} (hc : IsZ k c n) (hd : IsZ k d m) (hn : roomy k (n + m)) : IsZ k (fop .add k c d) (n + m) := by
  obtain ⟨a, x, i, rfl, -, e1, hi, h1, -⟩ := hc.read
  obtain ⟨b, y, j, rfl, -, e2, hj, h2, -⟩ := hd.read
  show IsZ k (k.format.add a b) _
  unfold Format.add
  obtain ⟨u, v, p, e, h⟩ := sum_isZ hi hj h1 h2 hn
  rw [e1, e2, e]
  exact h
theorem sg_not (t : Bool) (x : Nat) : sg (!t) x = - sg t x := by unfold sg; cases t <;> simp
theorem IsZ.sub {k : FloatKind} {c d : Option Nat} {n m : Int} (hc : IsZ k c n) (hd : IsZ k d m) (hn : roomy k (n - m)) : IsZ k (fop .sub k c d) (n - m) := by
  obtain ⟨a, x, i, rfl, -, e1, hi, h1, -⟩ := hc.read
  obtain ⟨b, y, j, rfl, -, e2, hj, h2, -⟩ := hd.read
  show IsZ k (k.format.sub a b) _
  unfold Format.sub
  obtain ⟨u, v, p, e, h⟩ := sum_isZ (k := k) (n := n) (m := -m) hi hj h1 (by rw [sg_not, h2, Int.neg_mul]) (by rw [← Int.sub_eq_add_neg]; exact hn)
  rw [e1, e2]
  show IsZ k (((Datum.number _ x i).sum (.number (!sgn k.format b) y j)).map k.format.write) _
  rw [e]
  rw [Int.sub_eq_add_neg]
  exact h
/-- What divides a number times a power of two divides it times a small one. -/
theorem dvd_pow2 : ∀ (n m X : Nat), n ≠ 0 → n ∣ m * 2 ^ X → n ∣ m * 2 ^ n.log2 := by
  intro n
  induction n using Nat.strongRecOn with
  | ind n ih =>
    intro m X h0 hd
    rcases Nat.mod_two_eq_zero_or_one n with h | h
    · obtain ⟨q, rfl⟩ : ∃ q, n = 2 * q := ⟨n / 2, by omega⟩
      have hq : q ≠ 0 := by omega
      have h1 := ih q (by omega) m X hq (Nat.dvd_trans (Nat.dvd_mul_left q 2) hd)
      rw [Nat.log2_two_mul hq, Nat.pow_succ, ← Nat.mul_assoc, Nat.mul_comm 2 q]
      exact Nat.mul_dvd_mul_right h1 2
    · have hc : Nat.Coprime n (2 ^ X) := by
        refine Nat.Coprime.pow_right X ?_
        rw [Nat.coprime_comm]
        show Nat.gcd 2 n = 1
        rw [Nat.gcd_rec, h]
        rfl
      exact Nat.dvd_trans (hc.dvd_of_dvd_mul_right hd) (Nat.dvd_mul_right m _)
theorem IsZ.quo {c d : Option Nat} {q m : Int} (hc : IsZ .f64 c (q * m)) (hd : IsZ .f64 d m) (hm : m ≠ 0) (hn : roomy .f64 q) : IsZ .f64 (fop .quo .f64 c d) q := by
  obtain ⟨a, x, i, rfl, -, e1, hi, h1, hx⟩ := hc.read
  obtain ⟨b, y, j, rfl, -, e2, hj, h2, hy⟩ := hd.read
  show IsZ .f64 (FloatKind.f64.format.div a b) _
  unfold Format.div
  have hlp := lp_lpn .f64
  rw [lp_lpn] at hi hj h1 h2
  generalize lpn FloatKind.f64 = L at hlp hi hj h1 h2
  have hG : 0 < (2 ^ L : Nat) := Nat.two_pow_pos _
  generalize (2 ^ L : Nat) = G at h1 h2 hG
  have hy0 : y ≠ 0 := by
    intro h; subst h
    rw [Nat.zero_mul] at h2
    have h3 : (0 : Int) = m * G := by rw [← h2]; unfold sg; split <;> simp
    rcases Int.mul_eq_zero.1 h3.symm with h4 | h4
    · exact hm h4
    · omega
  rw [e1, e2, quot_num _ _ _ _ _ _ _ hy0]
  show IsZ .f64 (some (FloatKind.f64.format.write _)) _
  rw [show FloatKind.f64.format.fractionBits + 2 = 54 by decide, Nat.shiftLeft_eq]
  have hxl : x.log2 ≤ 52 := by
    by_cases h0 : x = 0
    · subst h0; decide
    · have hb : x < 2 ^ 53 := by rw [show (2 ^ 53 : Nat) = 2 * FloatKind.f64.format.binade by decide]; exact hx
      have := (Nat.log2_lt h0).2 hb
      omega
  obtain ⟨M, hM⟩ : ∃ M, M = 54 + y.log2 - x.log2 := ⟨_, rfl⟩
  rw [← hM]
  -- the dividend's value is the divisor's times q
  have hv : sg (sgn FloatKind.f64.format a ^^ sgn FloatKind.f64.format b) (x * 2 ^ (i - -(L : Int)).toNat) = q * ((y * 2 ^ (j - -(L : Int)).toNat : Nat) : Int) := by
    have e : ∀ (s t : Bool) (X Y : Nat), sg s X = q * m * G → sg t Y = m * G → sg (s ^^ t) X = q * (Y : Int) := by
      intro s t X Y p1 p2
      have p3 : sg s X = q * sg t Y := by rw [p1, p2, Int.mul_assoc]
      unfold sg at p3 ⊢
      cases s <;> cases t <;> simp at p3 ⊢ <;> first | exact p3 | (rw [Int.mul_neg] at p3; omega) | omega
    exact e _ _ _ _ h1 h2
  have hdvd : y ∣ x * 2 ^ M := by
    have h3 : y ∣ x * 2 ^ (i - -(L : Int)).toNat := by
      have := (sg_natAbs hv).1
      rw [this, Int.natAbs_mul, Int.natAbs_natCast, ← Nat.mul_assoc, Nat.mul_comm _ y, Nat.mul_assoc]
      exact Nat.dvd_mul_right y _
    refine Nat.dvd_trans (dvd_pow2 y x _ hy0 h3) ?_
    exact Nat.mul_dvd_mul_left x (Nat.pow_dvd_pow 2 (by omega))
  rw [Nat.mod_eq_zero_of_dvd hdvd]
  obtain ⟨D, hD⟩ := hdvd
  rw [hD, Nat.mul_div_cancel_left _ (Nat.pos_of_ne_zero hy0)]
  have hbase : ∃ B : Nat, (-(B : Int)) ≤ i - j - M - 1 ∧ L ≤ B ∧ -(B : Int) ≤ i - j ∧ (j : Int) ≤ B := ⟨(j - i).toNat + M + 1 + L + j.toNat, by omega, by omega, by omega, by omega⟩
  obtain ⟨B, hB1, hB2, hB3, hB4⟩ := hbase
  refine isZ_write .f64 (base := -(B : Int)) hB1 (by rw [hlp]; omega) ?_ hn
  rw [show (-(-(B : Int))).toNat = B by omega]
  -- both sides times y * 2 ^ (j + 1074)
  have hY : 0 < y * 2 ^ (j - -(L : Int)).toNat := Nat.mul_pos (Nat.pos_of_ne_zero hy0) (Nat.two_pow_pos _)
  refine Int.eq_of_mul_eq_mul_right (a := ((y * 2 ^ (j - -(L : Int)).toNat : Nat) : Int)) (by omega) ?_
  rw [← sg_mulN]
  have hL : (2 * D + (0 != 0).toNat) * 2 ^ (i - j - (M : Int) - 1 - -(B : Int)).toNat * (y * 2 ^ (j - -(L : Int)).toNat) = x * 2 ^ (i - -(L : Int)).toNat * 2 ^ B := by
    have e3 : (i - j - (M : Int) - 1 - -(B : Int)).toNat + 1 + M + (j - -(L : Int)).toNat = (i - -(L : Int)).toNat + B := by omega
    have e4 : (2 : Nat) ^ (i - j - (M : Int) - 1 - -(B : Int)).toNat * 2 * 2 ^ M * 2 ^ (j - -(L : Int)).toNat = 2 ^ (i - -(L : Int)).toNat * 2 ^ B := by
      rw [← Nat.pow_succ, ← Nat.pow_add, ← Nat.pow_add, ← Nat.pow_add, ← e3]
    have e5 : (0 != 0).toNat = 0 := rfl
    rw [e5, Nat.add_zero, Nat.mul_assoc x, ← e4]
    have e6 : y * D = x * 2 ^ M := hD.symm
    calc 2 * D * 2 ^ (i - j - (M : Int) - 1 - -(B : Int)).toNat * (y * 2 ^ (j - -(L : Int)).toNat)
        = (y * D) * (2 ^ (i - j - (M : Int) - 1 - -(B : Int)).toNat * 2 * 2 ^ (j - -(L : Int)).toNat) := by simp only [Nat.mul_assoc, Nat.mul_left_comm, Nat.mul_comm]
      _ = _ := by rw [e6]; simp only [Nat.mul_assoc, Nat.mul_left_comm, Nat.mul_comm]
  rw [hL, sg_mulN, hv]
  simp only [Int.mul_assoc, Int.mul_left_comm, Int.mul_comm]
theorem IsZ.widen {c : Option Nat} {n : Int} (h : IsZ .f32 c n) : IsZ .f64 (widen c) n := by
  obtain ⟨b, rfl, hr, hv⟩ := h
  rw [widen_some (cl_of_rung (k := .f32) (Nat.le_of_lt hr))]
  obtain ⟨h1, h2⟩ := up_val hr
  obtain ⟨w1, w2⟩ := sgn_word .f64 (sgn FloatKind.f32.format b) (Nat.le_of_lt h2)
  refine ⟨_, rfl, by rw [w2]; exact h2, ?_⟩
  rw [w1, w2]
  change sg _ (val Ieee.double (up (rung FloatKind.f32.format b))) = n * 2 ^ lpn FloatKind.f64
  rw [h1, sg_mulN]
  change sg (sgn FloatKind.f32.format b) (val Ieee.single (rung FloatKind.f32.format b)) = n * 2 ^ 149 at hv
  have e : (2 : Int) ^ 149 * ((2 ^ lift : Nat) : Int) = 2 ^ lpn FloatKind.f64 := by
    have e1 : lpn FloatKind.f64 = 149 + lift := rfl
    rw [e1, Int.pow_add]
    simp
  rw [hv, Int.mul_assoc, e]
theorem IsZ.narrow {c : Option Nat} {n : Int} (h : IsZ .f64 c n) (hn : roomy .f32 n) : fits c = true ∧ IsZ .f32 (narrow c) n := by
  obtain ⟨b, m, p, rfl, -, e, hp, hv, -⟩ := h.read
  have hz : IsZ .f32 (some (FloatKind.f32.format.write (.number (sgn FloatKind.f64.format b) m p))) n := by
    refine isZ_write .f32 hp (by decide) ?_ hn
    have e1 : (-FloatKind.f64.format.leastPlace).toNat = lpn .f64 := by rw [lp_lpn]; omega
    rw [hv, e1]
  constructor
  · unfold fits
    simp only [e]
    obtain ⟨x, hx, hr, -⟩ := hz
    injection hx with hx
    rw [hx]
    obtain ⟨m', p', e', -⟩ := read_fin FloatKind.f32.format hr
    rw [e']; rfl
  · show IsZ .f32 (some (FloatKind.f32.format.write (FloatKind.f64.format.read b))) n
    rw [e]; exact hz
theorem IsZ.ford {k : FloatKind} {c d : Option Nat} {n m : Int} (hc : IsZ k c n) (hd : IsZ k d m) : ford k c d = some (compare n m) := by
  obtain ⟨a, rfl, ha, h1⟩ := hc
  obtain ⟨b, rfl, hb, h2⟩ := hd
  rw [ford_key (cl_of_rung (Nat.le_of_lt ha)) (cl_of_rung (Nat.le_of_lt hb))]
  unfold key
  have mono : ∀ u v : Nat, (u < v ↔ val k.format u < val k.format v) := fun u v =>
    ⟨fun h => val_lt k.format h, fun h => Nat.lt_of_not_le fun h' => by have := val_le k.format h'; omega⟩
  have z : ∀ u : Nat, (u = 0 ↔ val k.format u = 0) := fun u =>
    ⟨fun h => by rw [h, val_zero], fun h => by rcases Nat.eq_zero_or_pos u with h' | h'; exact h'; have := val_lt k.format h'; rw [val_zero] at this; omega⟩
  rw [compare_sg _ _ (mono _ _) (mono _ _) (z _) (z _), h1, h2]
  have hg : (0 : Int) < 2 ^ lpn k := by exact_mod_cast Nat.two_pow_pos (lpn k)
  generalize (2 : Int) ^ lpn k = g at hg
  rw [compare_int, compare_int]
  congr 1
  have e1 : n * g < m * g ↔ n < m := Int.mul_lt_mul_right hg
  have e2 : n * g = m * g ↔ n = m := ⟨fun h => Int.eq_of_mul_eq_mul_right (by omega) h, fun h => by rw [h]⟩
  simp only [e1, e2]
theorem isZ_int (k : FloatKind) {n : Int} (hn : roomy k n) : IsZ k (some (floatOfInt k n)) n := by
  show IsZ k (some (k.format.write (.number (decide (n < 0)) n.natAbs 0))) n
  refine isZ_write k (base := k.format.leastPlace) (by rw [lp_lpn]; omega) (Int.le_refl _) ?_ hn
  rw [sg_mulN, show (0 - k.format.leastPlace).toNat = (-k.format.leastPlace).toNat by omega]
  congr 1
  exact sg_of (fun h => decide_eq_true h) (fun h => decide_eq_false (by omega))
theorem cl_int (k : FloatKind) {n : Int} (hn : roomy k n) : cl k (floatOfInt k n) = some (floatOfInt k n) := by
  obtain ⟨b, hb, hr, -⟩ := isZ_int k hn
  injection hb with hb
  rw [hb]
  exact cl_of_rung (Nat.le_of_lt hr)
theorem isZ_cl (k : FloatKind) {n : Int} (hn : roomy k n) : IsZ k (cl k (floatOfInt k n)) n := by rw [cl_int k hn]; exact isZ_int k hn
/-! The opposite. -/
theorem sgn_flip (f : Format) (b : Nat) : sgn f (b ^^^ 2 ^ (f.exponentBits + f.fractionBits)) = !sgn f b := by
  unfold sgn Format.signWeight
  rw [Nat.xor_div_two_pow, Nat.div_self (Nat.two_pow_pos _)]
  have h : (b / 2 ^ (f.exponentBits + f.fractionBits) ^^^ 1) % 2 = 1 - b / 2 ^ (f.exponentBits + f.fractionBits) % 2 := by
    have := Nat.xor_mod_two_pow (a := b / 2 ^ (f.exponentBits + f.fractionBits)) (b := 1) (n := 1)
    rw [Nat.pow_one] at this
    rw [this]
    rcases Nat.mod_two_eq_zero_or_one (b / 2 ^ (f.exponentBits + f.fractionBits)) with h | h <;> rw [h] <;> rfl
  rw [h]
  rcases Nat.mod_two_eq_zero_or_one (b / 2 ^ (f.exponentBits + f.fractionBits)) with h | h <;> rw [h] <;> rfl
theorem rung_flip (f : Format) (b : Nat) : rung f (b ^^^ 2 ^ (f.exponentBits + f.fractionBits)) = rung f b := by
  unfold rung Format.signWeight
  rw [Nat.xor_mod_two_pow, Nat.mod_self, Nat.xor_zero]
theorem IsZ.flip {k : FloatKind} {b : Nat} {n : Int} (h : IsZ k (some b) n) : IsZ k (some (Op.negFloat k b)) (-n) := by
  obtain ⟨x, hx, hr, hv⟩ := h
  injection hx with hx
  subst hx
  refine ⟨_, rfl, ?_, ?_⟩
  · unfold Op.negFloat; rw [rung_flip]; exact hr
  · unfold Op.negFloat; rw [rung_flip, sgn_flip, sg_not, hv, Int.neg_mul]
theorem cl_flip (k : FloatKind) (b : Nat) : cl k (Op.negFloat k b) = (cl k b).map (Op.negFloat k) := by
  have h1 := read_isNaN k.format b (fmt_pos k).2.2
  have h2 := read_isNaN k.format (Op.negFloat k b) (fmt_pos k).2.2
  unfold Op.negFloat at h2 ⊢
  rw [rung_flip, ← h1] at h2
  unfold cl
  rw [h2]
  split <;> rfl
theorem flip_flip (k : FloatKind) (b : Nat) : Op.negFloat k (Op.negFloat k b) = b := by
  unfold Op.negFloat
  rw [Nat.xor_assoc, Nat.xor_self, Nat.xor_zero]
theorem IsZ.negC {c : Option Nat} {n : Int} (h : IsZ .f64 c n) : IsZ .f64 (negC c) (-n) := by
  obtain ⟨b, rfl, hr, hv⟩ := h
  exact IsZ.flip (k := .f64) ⟨b, rfl, hr, hv⟩
theorem IsZ.neg_cl {k : FloatKind} {b : Nat} {n : Int} (h : IsZ k (cl k b) n) : IsZ k (cl k (Op.negFloat k b)) (-n) := by
  rw [cl_flip]
  obtain ⟨x, hx, hr, hv⟩ := h
  rw [hx]
  exact IsZ.flip ⟨x, rfl, hr, hv⟩
@[go_sem] theorem run_neg_float32 (P : Program) (w : World) (b : Nat) : (Op.unary .neg (.float .f32 b)).run P w = .ok (.float .f32 (Op.negFloat .f32 b)) w := rfl

/-! Products of complex numbers whose parts are integers. -/
theorem isZ_mulRe {a b c d : Option Nat} {i j m n : Int} (ha : IsZ .f64 a i) (hb : IsZ .f64 b j) (hc : IsZ .f64 c m) (hd : IsZ .f64 d n) (h1 : roomy .f64 (i * m)) (h2 : roomy .f64 (j * n)) (h3 : roomy .f64 (i * m - j * n)) : IsZ .f64 (mulRe a b c d) (i * m - j * n) :=
  (ha.mul hc h1).sub (hb.mul hd h2) h3
theorem isZ_mulIm {a b c d : Option Nat} {i j m n : Int} (ha : IsZ .f64 a i) (hb : IsZ .f64 b j) (hc : IsZ .f64 c m) (hd : IsZ .f64 d n) (h1 : roomy .f64 (i * n)) (h2 : roomy .f64 (j * m)) (h3 : roomy .f64 (i * n + j * m)) : IsZ .f64 (mulIm a b c d) (i * n + j * m) :=
  (ha.mul hd h1).add (hb.mul hc h2) h3
theorem isZ_powC {a b : Option Nat} {i j : Int} (ha : IsZ .f64 a i) (hb : IsZ .f64 b j) (h1 : roomy .f64 (i * i)) (h2 : roomy .f64 (j * j)) (h3 : roomy .f64 (i * i + j * j)) : IsZ .f64 (powC a b) (i * i + j * j) :=
  (ha.mul ha h1).add (hb.mul hb h2) h3

/-! Conversions to integers. -/
theorem isZ_toInt {k : FloatKind} {b : Nat} {n : Int} (h : IsZ k (some b) n) : (k.format.read b).toInt .zero = some n := by
  obtain ⟨x, m, p, hx, -, e, hp, hv, -⟩ := h.read
  injection hx with hx
  subst hx
  rw [e, toInt_num, signed_zero]
  have h1 := sg_natAbs hv
  rw [Int.natAbs_mul, Int.natAbs_natCast] at h1
  rw [lp_lpn] at h1 hp
  have hw : whole m p = n.natAbs := by
    unfold whole
    rcases Int.le_total 0 p with h0 | h0
    · rw [show (-p).toNat = 0 by omega, Nat.pow_zero, Nat.div_one]
      rw [show (p - -(lpn k : Int)).toNat = p.toNat + lpn k by omega, Nat.pow_add, ← Nat.mul_assoc] at h1
      exact Nat.eq_of_mul_eq_mul_right (Nat.two_pow_pos _) h1.1
    · rw [show p.toNat = 0 by omega, Nat.pow_zero, Nat.mul_one]
      obtain ⟨B, hB⟩ : ∃ B, B = (p - -(lpn k : Int)).toNat := ⟨_, rfl⟩
      rw [← hB, show lpn k = (-p).toNat + B by omega, Nat.pow_add, ← Nat.mul_assoc] at h1
      have h2 := Nat.eq_of_mul_eq_mul_right (Nat.two_pow_pos _) h1.1
      rw [h2, Nat.mul_div_cancel _ (Nat.two_pow_pos _)]
  rw [hw]
  have hpos : (0 : Int) < ((2 ^ lpn k : Nat) : Int) := by exact_mod_cast Nat.two_pow_pos _
  have h3 : sg (sgn k.format b) n.natAbs = n := by
    have h4 := sg_natAbs hv
    exact sg_of (fun hneg => h4.2.1 (Int.mul_neg_of_neg_of_pos hneg hpos)) (fun hp => h4.2.2 (Int.mul_pos hp hpos))
  exact congrArg some h3
section
variable {P : Program} (w : World) {ops : Array Oper} {rest : List Oper} {o : Oper} {a : Act} {Q : Exit → Act → World → Prop}
theorem run_f2iK (k : FloatKind) (src dst : TypeId) (b : Nat) (n : Int) (hs : (P.underlying src).isSome = true) (hd : P.underlying dst = some (.int .i64)) (hn : (k.format.read b).toInt .zero = some n) (hr : -9223372036854775808 ≤ n ∧ n ≤ 9223372036854775807) :
    (convert src dst (.float k b)).run P w = .ok (.int .i64 n) w := by
  obtain ⟨u, hs'⟩ := Option.isSome_iff_exists.1 hs
  have hconv : (convert src dst (.float k b)).run P w = (Conv.floatToInt k b .i64).run P w := by
    cases u <;> simp [convert, run_underlying hs', run_underlying hd]
  rw [hconv]
  unfold Conv.floatToInt FloatKind.decode
  rw [hn]
  have h1 : IntKind.i64.min ≤ n ∧ n ≤ IntKind.i64.max := by
    show (-2 ^ 63 : Int) ≤ n ∧ n ≤ 2 ^ 63 - 1
    omega
  simp only [h1, and_self, if_true]
  rfl
/-- 'int64(x)' of a number that is an integer. -/
theorem wpList_f2z (k : FloatKind) (s d : TypeId) (x : Operand) (hop : o.op = .convert s d x) (p : Nat) (hx : a.eval x = .float k p) (hd : P.underlying d = some (.int .i64)) (hs : (P.underlying s).isSome = true)
    (hg : Region.wanted o (yielded ops a.tmps) = true) (n : Int) (hn : (k.format.read p).toInt .zero = some n) (hr : -9223372036854775808 ≤ n ∧ n ≤ 9223372036854775807)
    (hK : wpList P ops Q rest (a.put o.dst (.int .i64 n)) w) : wpList P ops Q (o :: rest) a w := by
  refine wpList_wanted w hg fun K hK' => ?_
  have hr' := run_f2iK (P := P) w k s d p n hs hd hn hr
  unfold Oper.wp
  simp [execOp, hop, hx, hr', Result.andThen]
  exact hK' _ _ hK
end

end Go.Fl
