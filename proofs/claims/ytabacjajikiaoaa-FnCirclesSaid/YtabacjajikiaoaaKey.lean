/- Words as numbers: how two words stand to each other is how their signed rungs do; widening keeps every number, and narrowing brings it back. -/
import Derived.Test.YtabacjajikiaoaaFlt
import Derived.Test.YtabacjajikiaoaaNear
namespace Go.Fl
open Ieee

def sgn (f : Format) (b : Nat) : Bool := b / f.signWeight % 2 == 1
def rung (f : Format) (b : Nat) : Nat := b % f.signWeight
def sg (s : Bool) (x : Nat) : Int := if s then -(x : Int) else x
def key (f : Format) (b : Nat) : Int := sg (sgn f b) (rung f b)

theorem val_parts (f : Format) {E M : Nat} (h1 : M < 2 * f.binade) (h2 : 0 < E → f.binade ≤ M) : val f (E * f.binade + M) = M * 2 ^ E := by
  have hB : 0 < f.binade := Nat.two_pow_pos _
  unfold val
  by_cases hM : M < f.binade
  · have hE : E = 0 := by
      rcases Nat.eq_zero_or_pos E with h | h
      · exact h
      · have := h2 h; omega
    subst hE; rw [if_pos (by omega)]; simp
  · have hq : (E * f.binade + M) / f.binade = E + 1 := by
      rw [Nat.mul_comm, Nat.mul_add_div hB]
      congr 1
      exact (Nat.div_eq_iff hB).2 ⟨by omega, by omega⟩
    have hm : (E * f.binade + M) % f.binade = M - f.binade := by
      rw [Nat.mul_comm, Nat.mul_add_mod, Nat.mod_eq_sub_mod (by omega), Nat.mod_eq_of_lt (by omega)]
    have hge : ¬ E * f.binade + M < f.binade := by
      have := Nat.zero_le (E * f.binade); omega
    rw [if_neg hge, hq, hm, show f.binade + (M - f.binade) = M by omega, Nat.add_sub_cancel]

theorem read_fin (f : Format) {b : Nat} (h : rung f b < f.infRung) :
    ∃ m p, f.read b = .number (sgn f b) m p ∧ f.leastPlace ≤ p ∧ m * 2 ^ (p - f.leastPlace).toNat = val f (rung f b) ∧ m < 2 * f.binade := by
  have hB : 0 < f.binade := Nat.two_pow_pos _
  unfold Format.read
  simp only [show b % f.signWeight = rung f b from rfl, show (b / f.signWeight % 2 == 1) = sgn f b from rfl]
  by_cases h1 : rung f b < f.binade
  · rw [if_pos h1]
    exact ⟨_, _, rfl, Int.le_refl _, by simp [val, h1], by omega⟩
  · rw [if_neg h1, if_pos h]
    refine ⟨_, _, rfl, by omega, ?_, ?_⟩
    · rw [show (f.leastPlace + ((rung f b / f.binade - 1 : Nat) : Int) - f.leastPlace).toNat = rung f b / f.binade - 1 by omega]
      simp [val, h1]
    · have := Nat.mod_lt (rung f b) hB; omega

theorem read_inf (f : Format) {b : Nat} (hb : f.binade ≤ f.infRung) (h : rung f b = f.infRung) : f.read b = .infinity (sgn f b) := by
  unfold Format.read
  simp only [show b % f.signWeight = rung f b from rfl, show (b / f.signWeight % 2 == 1) = sgn f b from rfl]
  rw [if_neg (by omega), if_neg (by omega), if_pos h]

theorem read_isNaN (f : Format) (b : Nat) (hb : f.binade ≤ f.infRung) : (f.read b).isNaN = decide (f.infRung < rung f b) := by
  unfold Format.read
  simp only [show b % f.signWeight = rung f b from rfl]
  split
  · simp [Datum.isNaN]; omega
  · split
    · simp [Datum.isNaN]; omega
    · split
      · simp [Datum.isNaN]; omega
      · simp [Datum.isNaN]; omega

theorem compare_sg (s t : Bool) {X Y X' Y' : Nat} (hlt : X < Y ↔ X' < Y') (hgt : Y < X ↔ Y' < X') (hx : X = 0 ↔ X' = 0) (hy : Y = 0 ↔ Y' = 0) :
    compare (sg s X) (sg t Y) = compare (sg s X') (sg t Y') := by
  have e : ∀ a b : Int, compare a b = if a < b then .lt else if a = b then .eq else .gt := fun a b => rfl
  rw [e, e]
  unfold sg
  cases s <;> cases t <;> simp only [if_true, if_false, Bool.false_eq_true] <;> (repeat' split) <;> first | rfl | omega

theorem sg_signed (s : Bool) (m up : Nat) : signed s m up = sg s (m * 2 ^ up) := by
  unfold signed sg; simp [Nat.shiftLeft_eq]

theorem order_key (k : FloatKind) {b c : Nat} (hb : (k.format.read b).isNaN = false) (hc : (k.format.read c).isNaN = false) :
    k.format.order b c = some (compare (key k.format b) (key k.format c)) := by
  have hp := fmt_pos k
  generalize k.format = f at *
  obtain ⟨-, -, hBI⟩ := hp
  rw [read_isNaN f _ hBI] at hb hc
  simp only [decide_eq_false_iff_not] at hb hc
  have hB : 0 < f.binade := Nat.two_pow_pos _
  unfold Format.order key
  rcases Nat.lt_or_eq_of_le (Nat.le_of_not_lt hb) with hb1 | hb1 <;> rcases Nat.lt_or_eq_of_le (Nat.le_of_not_lt hc) with hc1 | hc1
  · obtain ⟨m, i, e1, hi, hm, -⟩ := read_fin f hb1
    obtain ⟨n, j, e2, hj, hn, -⟩ := read_fin f hc1
    rw [e1, e2]
    simp only [Datum.order, sg_signed]
    generalize hbase : min i j = base
    have hbl : f.leastPlace ≤ base := by omega
    generalize hx : m * 2 ^ (i - base).toNat = X
    generalize hy : n * 2 ^ (j - base).toNat = Y
    have hX : X * 2 ^ (base - f.leastPlace).toNat = val f (rung f b) := by
      rw [← hx, ← hm, Nat.mul_assoc, ← Nat.pow_add]; congr 2; omega
    have hY : Y * 2 ^ (base - f.leastPlace).toNat = val f (rung f c) := by
      rw [← hy, ← hn, Nat.mul_assoc, ← Nat.pow_add]; congr 2; omega
    generalize rung f b = r at *
    generalize rung f c = s at *
    have hg := Nat.two_pow_pos (base - f.leastPlace).toNat
    generalize 2 ^ (base - f.leastPlace).toNat = g at *
    have mono : ∀ u v : Nat, (val f u < val f v ↔ u < v) := fun u v =>
      ⟨fun h => Nat.lt_of_not_le fun h' => by have := val_le f h'; omega, fun h => val_lt f h⟩
    have z : ∀ u : Nat, (val f u = 0 ↔ u = 0) := fun u =>
      ⟨fun h => by rcases Nat.eq_zero_or_pos u with h' | h'; exact h'; have := val_lt f h'; rw [val_zero] at this; omega, fun h => by rw [h, val_zero]⟩
    congr 1
    refine compare_sg _ _ ?_ ?_ ?_ ?_
    · rw [← mono r s, ← hX, ← hY]; exact (Nat.mul_lt_mul_right hg).symm
    · rw [← mono s r, ← hX, ← hY]; exact (Nat.mul_lt_mul_right hg).symm
    · rw [← z r, ← hX]; constructor
      · intro h; rw [h, Nat.zero_mul]
      · intro h; rcases Nat.mul_eq_zero.1 h with h | h; exact h; omega
    · rw [← z s, ← hY]; constructor
      · intro h; rw [h, Nat.zero_mul]
      · intro h; rcases Nat.mul_eq_zero.1 h with h | h; exact h; omega
  · obtain ⟨m, i, e1, -, -, -⟩ := read_fin f hb1
    rw [e1, read_inf f hBI hc1]
    simp only [Datum.order]
    generalize sgn f b = s; generalize sgn f c = t
    rw [hc1]
    have e : ∀ a b : Int, compare a b = if a < b then .lt else if a = b then .eq else .gt := fun a b => rfl
    rw [e]; unfold sg
    cases s <;> cases t <;> simp only [if_true, if_false, Bool.false_eq_true] <;> (repeat' split) <;> first | rfl | omega
  · obtain ⟨m, i, e1, -, -, -⟩ := read_fin f hc1
    rw [e1, read_inf f hBI hb1]
    simp only [Datum.order]
    generalize sgn f b = s; generalize sgn f c = t
    rw [hb1]
    have e : ∀ a b : Int, compare a b = if a < b then .lt else if a = b then .eq else .gt := fun a b => rfl
    rw [e]; unfold sg
    cases s <;> cases t <;> simp only [if_true, if_false, Bool.false_eq_true] <;> (repeat' split) <;> first | rfl | omega
  · rw [read_inf f hBI hb1, read_inf f hBI hc1, hb1, hc1]
    simp only [Datum.order]
    generalize sgn f b = s; generalize sgn f c = t
    have hI : 0 < f.infRung := by omega
    have e : ∀ a b : Int, compare a b = if a < b then .lt else if a = b then .eq else .gt := fun a b => rfl
    rw [e]; unfold sg
    cases s <;> cases t <;> simp only [if_true, if_false, Bool.false_eq_true] <;> (repeat' split) <;> first | rfl | omega

/-- A number of few digits is kept. -/
theorem near_val (f : Format) {m : Nat} {p : Int} (hm : m ≠ 0) (h1 : m < 2 * f.binade) (h2 : f.leastPlace ≤ p) (h3 : p + m.log2 - f.fractionBits - f.leastPlace + 3 ≤ 2 ^ f.exponentBits) (h4 : 3 ≤ 2 ^ f.exponentBits) :
    val f (nearRung f m p) = m * 2 ^ (p - f.leastPlace).toNat ∧ nearRung f m p < f.infRung := by
  obtain ⟨EL, a, d, hL, ha, hd, hpd, hlt, hge⟩ := last_bounds f m p hm
  have hB : 0 < f.binade := Nat.two_pow_pos _
  have hlog : m.log2 ≤ f.fractionBits := by
    have : m.log2 < f.fractionBits + 1 := (Nat.log2_lt hm).2 (by unfold Format.binade at h1; rw [Nat.pow_succ]; omega)
    omega
  have hd0 : d = 0 := by omega
  subst hd0
  simp only [Nat.pow_zero, Nat.mul_one] at hlt hge
  have hinf : EL * f.binade + m * 2 ^ a < f.infRung := by
    unfold Format.infRung
    have h4' : (3 : Int) ≤ 2 ^ f.exponentBits := by exact_mod_cast h4
    have h5 : (EL : Int) + 3 ≤ 2 ^ f.exponentBits := by omega
    have h5' : EL + 3 ≤ 2 ^ f.exponentBits := by exact_mod_cast h5
    have : (EL + 2) * f.binade ≤ (2 ^ f.exponentBits - 1) * f.binade := Nat.mul_le_mul_right _ (by omega)
    rw [Nat.add_mul] at this
    omega
  have hr : nearRung f m p = EL * f.binade + m * 2 ^ a := by
    refine near_exact f (base := f.leastPlace) h2 (Int.le_refl _) (Nat.le_of_lt hinf) ?_
    rw [val_parts f hlt hge, Int.sub_self, Int.toNat_zero, Nat.pow_zero, Nat.mul_one, Nat.mul_assoc, ← Nat.pow_add]
    congr 2; omega
  refine ⟨?_, by rw [hr]; exact hinf⟩
  rw [hr, val_parts f hlt hge, Nat.mul_assoc, ← Nat.pow_add]
  congr 2; omega

theorem sgn_word (k : FloatKind) (s : Bool) {r : Nat} (h : r ≤ k.format.infRung) : sgn k.format (k.format.word s r) = s ∧ rung k.format (k.format.word s r) = r := by
  have hp := fmt_pos k
  have hr : r < k.format.signWeight := by omega
  unfold sgn rung Format.word
  generalize k.format.signWeight = g at *
  cases s
  · simp [Nat.mod_eq_of_lt hr, Nat.div_eq_of_lt hr]
  · simp [Nat.mod_eq_of_lt hr, Nat.add_div_left _ (by omega : 0 < g), Nat.div_eq_of_lt hr]

theorem word_sgn (f : Format) (b : Nat) (h : b < 2 * f.signWeight) : f.word (sgn f b) (rung f b) = b := by
  unfold Format.word sgn rung
  have h1 := Nat.div_add_mod b f.signWeight
  have hlt := Nat.div_lt_of_lt_mul (by rw [Nat.mul_comm]; exact h : b < f.signWeight * 2)
  generalize b / f.signWeight = q at *
  generalize b % f.signWeight = x at *
  generalize f.signWeight = g at *
  rcases (by omega : q = 0 ∨ q = 1) with rfl | rfl
  · simp at h1 ⊢; exact h1
  · simp at h1 ⊢; exact h1

/-- The rung in format double of a rung of format single. -/
def up (r : Nat) : Nat := if r < Ieee.single.infRung then nearRung Ieee.double (if r < Ieee.single.binade then r else Ieee.single.binade + r % Ieee.single.binade) (if r < Ieee.single.binade then Ieee.single.leastPlace else Ieee.single.leastPlace + (r / Ieee.single.binade - 1 : Nat)) else Ieee.double.infRung

/-- By how many places format single's least place lies above format double's. -/
def lift : Nat := 925
theorem nearRung_zero (f : Format) (p : Int) : nearRung f 0 p = 0 := by simp [nearRung]
theorem up_zero : up 0 = 0 := by
  unfold up
  rw [if_pos (by decide), if_pos (by decide), nearRung_zero]

theorem up_val {r : Nat} (h : r < Ieee.single.infRung) : val Ieee.double (up r) = val Ieee.single r * 2 ^ lift ∧ up r < Ieee.double.infRung := by
  have hI : Ieee.single.infRung = 255 * 8388608 := by decide
  have hB : Ieee.single.binade = 8388608 := by decide
  have hB2 : Ieee.double.binade = 4503599627370496 := by decide
  have hl : Ieee.single.leastPlace = -149 := by decide
  have hl2 : Ieee.double.leastPlace = -1074 := by decide
  unfold up
  rw [if_pos h]
  unfold val
  rw [hB, hl]
  by_cases h1 : r < 8388608
  · simp only [h1, if_true]
    by_cases hr : r = 0
    · subst hr
      simp only [nearRung_zero]
      refine ⟨?_, by decide⟩
      rw [if_pos (by decide), Nat.zero_mul]
    · have hlog : r.log2 < 23 := (Nat.log2_lt hr).2 (by simpa using h1)
      have := near_val Ieee.double (m := r) (p := -149) hr (by omega) (by omega) (by rw [hl2]; show (-149 + (r.log2 : Int) - 52 - -1074 + 3) ≤ 2048; omega) (by decide)
      refine ⟨?_, this.2⟩
      have h5 := this.1
      unfold val at h5
      rw [h5, hl2]; exact congrArg (fun e => r * 2 ^ e) (show ((-149 : Int) - -1074).toNat = lift by decide)
  · simp only [h1, if_false]
    have hm := Nat.mod_lt r (show 0 < 8388608 by decide)
    have hq : r / 8388608 < 255 := Nat.div_lt_of_lt_mul (by omega)
    generalize hM : 8388608 + r % 8388608 = M
    have hM0 : M ≠ 0 := by omega
    have hlog : M.log2 < 24 := (Nat.log2_lt hM0).2 (by omega)
    generalize r / 8388608 = q at *
    have := near_val Ieee.double (m := M) (p := -149 + ((q - 1 : Nat) : Int)) hM0 (by omega) (by omega) (by rw [hl2]; show (-149 + ((q - 1 : Nat) : Int) + (M.log2 : Int) - 52 - -1074 + 3) ≤ 2048; omega) (by decide)
    refine ⟨?_, this.2⟩
    have h5 := this.1
    unfold val at h5
    rw [h5, hl2, Nat.mul_assoc, ← Nat.pow_add]
    congr 2; unfold lift; omega

theorem up_lt {r s : Nat} (h : r < s) (hs : s ≤ Ieee.single.infRung) : up r < up s := by
  have hr := up_val (r := r) (by omega)
  rcases Nat.lt_or_eq_of_le hs with h1 | h1
  · have h2 := up_val h1
    refine Nat.lt_of_not_le fun h' => ?_
    have h3 := val_le Ieee.double h'
    rw [hr.1, h2.1] at h3
    have h4 := val_lt Ieee.single h
    have := (Nat.mul_lt_mul_right (Nat.two_pow_pos lift)).2 h4
    omega
  · subst h1
    have : up Ieee.single.infRung = Ieee.double.infRung := by unfold up; rw [if_neg (Nat.lt_irrefl _)]
    rw [this]; exact hr.2

/-- 'float64(b)' as a word. -/
theorem widen_word {b : Nat} (h : rung Ieee.single b ≤ Ieee.single.infRung) :
    Ieee.double.write (Ieee.single.read b) = Ieee.double.word (sgn Ieee.single b) (up (rung Ieee.single b)) := by
  rcases Nat.lt_or_eq_of_le h with h1 | h1
  · unfold Format.read
    simp only [show b % Ieee.single.signWeight = rung Ieee.single b from rfl, show (b / Ieee.single.signWeight % 2 == 1) = sgn Ieee.single b from rfl]
    by_cases h2 : rung Ieee.single b < Ieee.single.binade
    · rw [if_pos h2]; simp only [Format.write, nearest_eq, up, h1, h2, if_true]
    · rw [if_neg h2, if_pos h1]; simp only [Format.write, nearest_eq, up, h1, h2, if_true, if_false]
  · rw [read_inf Ieee.single (by decide) h1]
    simp [Format.write, up, h1]

/-- A number is equal to itself. -/
theorem ford_self {k : FloatKind} {a c : Nat} (h : cl k a = some c) : ford k (some c) (some c) = some .eq := by
  obtain ⟨rfl, hn⟩ := cl_some h
  show k.format.order a a = _
  rw [order_key k hn hn]
  simp [compare, compareOfLessAndEq]

theorem read_fin_word (k : FloatKind) (s : Bool) {r : Nat} (h : r < k.format.infRung) : (k.format.read (k.format.word s r)).isInfinity = false := by
  obtain ⟨h1, h2⟩ := sgn_word k s (Nat.le_of_lt h)
  obtain ⟨m, p, e, -⟩ := read_fin k.format (b := k.format.word s r) (by rw [h2]; exact h)
  rw [e]; rfl

theorem wide_finite {b : Nat} {s : Bool} {m : Nat} {e : Int} (h : FloatKind.f32.format.read b = .number s m e) :
    (FloatKind.f64.format.read (FloatKind.f64.format.write (.number s m e))).isInfinity = false := by
  rw [← h]
  have hr : rung Ieee.single b < Ieee.single.infRung := by
    refine Nat.lt_of_not_le fun hge => ?_
    rcases Nat.lt_or_eq_of_le hge with h1 | h1
    · have hn := read_isNaN Ieee.single b (by decide)
      rw [show Ieee.single.read b = _ from h] at hn
      simp [Datum.isNaN] at hn
      omega
    · rw [show FloatKind.f32.format.read b = _ from read_inf Ieee.single (b := b) (by decide) h1.symm] at h
      cases h
  rw [show FloatKind.f64.format.write (FloatKind.f32.format.read b) = _ from widen_word (Nat.le_of_lt hr)]
  exact read_fin_word .f64 _ (up_val hr).2

end Go.Fl
