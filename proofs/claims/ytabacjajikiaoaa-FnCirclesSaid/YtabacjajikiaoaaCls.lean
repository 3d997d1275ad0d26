/- Classes of words: which are finite, how they compare, what widening and taking the absolute value make of them. -/
import Derived.Test.YtabacjajikiaoaaKey
import Derived.Test.YtabacjajikiaoaaBits
import Derived.RowKit
namespace Go.Fl
open Ieee

/-- Every word of the class is a word of its format. -/
def WfC (k : FloatKind) (c : Option Nat) : Prop := ∀ b, c = some b → b < 2 ^ k.format.width

theorem wf_cl {k : FloatKind} {b : Nat} (h : b < 2 ^ k.format.width) : WfC k (cl k b) := fun c hc => by obtain ⟨rfl, -⟩ := cl_some hc; exact h

def isFin (k : FloatKind) : Option Nat → Bool
  | none => false
  | some b => decide (rung k.format b < k.format.infRung)

theorem rung_le {k : FloatKind} {a b : Nat} (h : cl k a = some b) : rung k.format b ≤ k.format.infRung := by
  obtain ⟨rfl, hn⟩ := cl_some h
  rw [read_isNaN _ _ (fmt_pos k).2.2] at hn
  simpa using hn

theorem cl_of_rung {k : FloatKind} {b : Nat} (h : rung k.format b ≤ k.format.infRung) : cl k b = some b := by
  refine cl_num ?_
  rw [read_isNaN _ _ (fmt_pos k).2.2]
  simpa using h

theorem cl_none_rung {k : FloatKind} {b : Nat} (h : cl k b = none) : k.format.infRung < rung k.format b := by
  have := cl_none h
  rw [read_isNaN _ _ (fmt_pos k).2.2] at this
  simpa using this

theorem cl_idem {k : FloatKind} {a b : Nat} (h : cl k a = some b) : cl k b = some b := by
  obtain ⟨rfl, -⟩ := cl_some h; exact h

theorem ford_key {k : FloatKind} {x y a b : Nat} (ha : cl k x = some a) (hb : cl k y = some b) : ford k (some a) (some b) = some (compare (key k.format a) (key k.format b)) := by
  obtain ⟨rfl, h1⟩ := cl_some ha
  obtain ⟨rfl, h2⟩ := cl_some hb
  exact order_key k h1 h2

/-- What is taken from itself is zero where it is finite, and nothing else. -/
theorem sub_self (k : FloatKind) (b : Nat) : fop .sub k (cl k b) (cl k b) = if isFin k (cl k b) then some 0 else none := by
  rw [fop_cl]
  cases h : cl k b with
  | none => simp [isFin, floatBits_nan_left (cl_none h)]
  | some c =>
    obtain ⟨rfl, hn⟩ := cl_some h
    have hr := rung_le h
    unfold floatBits
    simp only [isFin, decide_eq_true_eq]
    rcases Nat.lt_or_eq_of_le hr with h1 | h1
    · rw [if_pos h1]
      obtain ⟨m, p, e, -⟩ := read_fin k.format h1
      simp only [Format.sub, e, Datum.opposite, Datum.sum, Int.min_self]
      have hz : signed (sgn k.format b) m (p - p).toNat + signed (!sgn k.format b) m (p - p).toNat = 0 := by
        unfold signed; cases sgn k.format b <;> simp <;> omega
      rw [hz]
      simp only [if_true, Int.natAbs_zero, Option.map_some, Format.write, nearest_eq, nearRung_zero, Bool.and_not_self]
      rfl
    · rw [if_neg (by omega)]
      have e := read_inf k.format (fmt_pos k).2.2 h1
      simp only [Format.sub, e, Datum.opposite, Datum.sum]
      cases sgn k.format b <;> rfl

theorem cl_zero (k : FloatKind) : cl k 0 = some 0 := by cases k <;> rfl
theorem zero_self (k : FloatKind) : ford k (some 0) (some 0) = some .eq := ford_self (cl_zero k)

theorem sub_self_eq (k : FloatKind) (b : Nat) : (ford k (fop .sub k (cl k b) (cl k b)) (cl k 0) == some .eq) = isFin k (cl k b) := by
  rw [sub_self, cl_zero]
  cases isFin k (cl k b)
  · rfl
  · simp only [if_true]; rw [zero_self]; rfl

/-! Absolute values, signs. -/
def absC (c : Option Nat) : Option Nat := c.map (· % 2 ^ 63)
theorem sw64 : FloatKind.f64.format.signWeight = 2 ^ 63 := by decide
theorem sw32 : FloatKind.f32.format.signWeight = 2 ^ 31 := by decide
theorem rung64 (b : Nat) : rung FloatKind.f64.format b = b % 2 ^ 63 := by rw [rung, sw64]
theorem rung32 (b : Nat) : rung FloatKind.f32.format b = b % 2 ^ 31 := by rw [rung, sw32]
theorem inf32 : FloatKind.f32.format.infRung = 2139095040 := by decide
theorem cl_abs (b : Nat) : cl .f64 (b % 2 ^ 63) = absC (cl .f64 b) := by
  have hr : rung FloatKind.f64.format (b % 2 ^ 63) = rung FloatKind.f64.format b := by rw [rung64, rung64, Nat.mod_mod]
  cases h : cl .f64 b with
  | none =>
    have := cl_none_rung h
    refine cl_nan ?_
    rw [read_isNaN _ _ (fmt_pos .f64).2.2, hr]; simpa using this
  | some c =>
    obtain ⟨rfl, -⟩ := cl_some h
    have := rung_le h
    exact cl_of_rung (by rw [hr]; exact this)
theorem sgn64_lt {b : Nat} (h : b < 2 ^ 63) : sgn FloatKind.f64.format b = false := by
  unfold sgn; rw [sw64, Nat.div_eq_of_lt h]; rfl
theorem key_abs (b : Nat) : key FloatKind.f64.format (b % 2 ^ 63) = rung FloatKind.f64.format b := by
  unfold key
  rw [sgn64_lt (Nat.mod_lt _ (Nat.two_pow_pos _)), rung64, rung64, Nat.mod_mod]
  rfl

def maxFin : Nat := FloatKind.f64.format.infRung - 1
theorem maxFin_lit : (9218868437227405311 : Nat) = maxFin := by decide
theorem maxFin_rung : rung FloatKind.f64.format maxFin = maxFin ∧ sgn FloatKind.f64.format maxFin = false := by decide
theorem cl_maxFin : cl .f64 maxFin = some maxFin := cl_of_rung (by rw [maxFin_rung.1]; exact Nat.sub_le _ _)
theorem key_maxFin : key FloatKind.f64.format maxFin = (maxFin : Int) := by unfold key; rw [maxFin_rung.1, maxFin_rung.2]; rfl

theorem compare_int (a b : Int) : compare a b = if a < b then .lt else if a = b then .eq else .gt := rfl
theorem compare_gt (a b : Int) : (some (compare a b) == some .gt) = decide (b < a) := by
  rw [compare_int]
  by_cases h1 : a < b
  · rw [if_pos h1, decide_eq_false (by omega)]; rfl
  · by_cases h2 : a = b
    · rw [if_neg h1, if_pos h2, decide_eq_false (by omega)]; rfl
    · rw [if_neg h1, if_neg h2, decide_eq_true (by omega)]; rfl
theorem compare_lt (a b : Int) : (some (compare a b) == some .lt) = decide (a < b) := by
  rw [compare_int]
  by_cases h1 : a < b
  · rw [if_pos h1, decide_eq_true h1]; rfl
  · by_cases h2 : a = b
    · rw [if_neg h1, if_pos h2, decide_eq_false h1]; rfl
    · rw [if_neg h1, if_neg h2, decide_eq_false h1]; rfl
theorem compare_eq (a b : Int) : (some (compare a b) == some .eq) = decide (a = b) := by
  rw [compare_int]
  by_cases h1 : a < b
  · rw [if_pos h1, decide_eq_false (by omega)]; rfl
  · by_cases h2 : a = b
    · rw [if_neg h1, if_pos h2, decide_eq_true h2]; rfl
    · rw [if_neg h1, if_neg h2, decide_eq_false h2]; rfl

theorem isInf_eq (b c : Nat) (h : cl .f64 b = some c) : (ford .f64 (absC (some c)) (some maxFin) == some .gt) = !isFin .f64 (some c) := by
  obtain ⟨rfl, -⟩ := cl_some h
  have h1 : cl .f64 (b % 2 ^ 63) = some (b % 2 ^ 63) := by rw [cl_abs, h]; rfl
  show (ford .f64 (some (b % 2 ^ 63)) (some maxFin) == some .gt) = _
  rw [ford_key h1 cl_maxFin, key_abs, key_maxFin, compare_gt]
  show _ = !decide (rung FloatKind.f64.format b < FloatKind.f64.format.infRung)
  unfold maxFin
  have hpos : 0 < FloatKind.f64.format.infRung := by decide
  generalize rung FloatKind.f64.format b = r
  generalize FloatKind.f64.format.infRung = I at *
  by_cases hr : r < I
  · rw [decide_eq_false (by omega)]; simp [hr]
  · rw [decide_eq_true (by omega)]; simp [hr]

theorem maxFin_eq : some maxFin = cl .f64 9218868437227405311 := by rw [maxFin_lit]; exact cl_maxFin.symm

/-! Widening. -/
theorem widen_some {a c : Nat} (h : cl .f32 a = some c) : widen (some c) = some (FloatKind.f64.format.word (sgn FloatKind.f32.format c) (up (rung FloatKind.f32.format c))) := by
  have := rung_le h
  show some _ = _
  exact congrArg some (widen_word this)

theorem up_inf : up Ieee.single.infRung = Ieee.double.infRung := by unfold up; rw [if_neg (Nat.lt_irrefl _)]
theorem up_le {r : Nat} (h : r ≤ Ieee.single.infRung) : up r ≤ Ieee.double.infRung := by
  rcases Nat.lt_or_eq_of_le h with h | h
  · exact Nat.le_of_lt (up_val h).2
  · rw [h, up_inf]; exact Nat.le_refl _

theorem widen_cl {a c : Nat} (h : cl .f32 a = some c) : ∃ d, widen (some c) = some d ∧ cl .f64 d = some d ∧ d < 2 ^ 64 ∧ sgn FloatKind.f64.format d = sgn FloatKind.f32.format c ∧ rung FloatKind.f64.format d = up (rung FloatKind.f32.format c) := by
  have hr := up_le (rung_le h)
  have hw := sgn_word .f64 (sgn FloatKind.f32.format c) hr
  refine ⟨_, widen_some h, cl_of_rung (by rw [hw.2]; exact hr), ?_, hw.1, hw.2⟩
  have h2 : up (rung FloatKind.f32.format c) < 2 ^ 63 := Nat.lt_of_le_of_lt hr (by decide)
  unfold Format.word
  rw [sw64]
  split <;> omega

theorem isFin_widen (b : Nat) : isFin .f64 (widen (cl .f32 b)) = isFin .f32 (cl .f32 b) := by
  cases h : cl .f32 b with
  | none => rfl
  | some c =>
    obtain ⟨d, h1, h2, h3, h4, h5⟩ := widen_cl h
    rw [h1]
    unfold isFin
    simp only [h5]
    have hr := rung_le h
    by_cases hlt : rung FloatKind.f32.format c < FloatKind.f32.format.infRung
    · simp only [hlt, decide_true, decide_eq_true_eq]; exact (up_val hlt).2
    · have : rung FloatKind.f32.format c = FloatKind.f32.format.infRung := by omega
      rw [this, show up FloatKind.f32.format.infRung = _ from up_inf]; simp [show FloatKind.f64.format.infRung = Ieee.double.infRung from rfl]

/-- Widening keeps the order. -/
theorem up_cmp {r s : Nat} (hr : r ≤ Ieee.single.infRung) (hs : s ≤ Ieee.single.infRung) : (up r < up s ↔ r < s) :=
  ⟨fun h => Nat.lt_of_not_le fun h' => by
    rcases Nat.lt_or_eq_of_le h' with h1 | h1
    · have := up_lt h1 hr; omega
    · subst h1; omega, fun h => up_lt h hs⟩
theorem key_widen (s t : Bool) {x y : Nat} (hx : x ≤ Ieee.single.infRung) (hy : y ≤ Ieee.single.infRung) : compare (sg s (up x)) (sg t (up y)) = compare (sg s x) (sg t y) := by
  have z : ∀ u, u ≤ Ieee.single.infRung → (up u = 0 ↔ u = 0) := fun u hu => ⟨fun h => by
    rcases Nat.eq_zero_or_pos u with h' | h'
    · exact h'
    · have := up_lt h' hu; rw [up_zero] at this; omega, fun h => by rw [h, up_zero]⟩
  exact compare_sg s t (up_cmp hx hy) (up_cmp hy hx) (z x hx) (z y hy)

theorem ford_widen (a b : Nat) : ford .f64 (widen (cl .f32 a)) (widen (cl .f32 b)) = ford .f32 (cl .f32 a) (cl .f32 b) := by
  cases ha : cl .f32 a with
  | none => rfl
  | some c =>
    cases hb : cl .f32 b with
    | none => rw [show widen none = none from rfl]; cases widen (some c) <;> rfl
    | some d =>
      obtain ⟨x, h1, h2, h3, h4, h5⟩ := widen_cl ha
      obtain ⟨y, g1, g2, g3, g4, g5⟩ := widen_cl hb
      rw [h1, g1, ford_key h2 g2, ford_key (cl_idem ha) (cl_idem hb)]
      unfold key
      rw [h4, h5, g4, g5]
      exact congrArg some (key_widen _ _ (rung_le ha) (rung_le hb))

/-! The same number. -/
theorem bits_inj {k : FloatKind} {a b : Nat} (ha : a < 2 * k.format.signWeight) (hb : b < 2 * k.format.signWeight) (h1 : sgn k.format a = sgn k.format b) (h2 : rung k.format a = rung k.format b) : a = b := by
  rw [← word_sgn k.format a ha, ← word_sgn k.format b hb, h1, h2]

/-- The bits of a class. -/
def bitsC : Option Nat → Int
  | none => 2143289344
  | some b => b

theorem nan32 : cl .f32 2143289344 = none := by rfl
theorem bitsC_same (a b : Nat) : (bitsC (cl .f32 a) == bitsC (cl .f32 b)) = decide (cl .f32 a = cl .f32 b) := by
  cases ha : cl .f32 a with
  | none =>
    cases hb : cl .f32 b with
    | none => rfl
    | some d =>
      obtain ⟨rfl, -⟩ := cl_some hb
      have : b ≠ 2143289344 := fun h => by rw [h, nan32] at hb; cases hb
      simp [bitsC]; omega
  | some c =>
    obtain ⟨rfl, -⟩ := cl_some ha
    have hn : a ≠ 2143289344 := fun h => by rw [h, nan32] at ha; cases ha
    cases hb : cl .f32 b with
    | none => simp [bitsC]; omega
    | some d =>
      simp only [bitsC, Option.some.injEq]
      by_cases h : a = d
      · subst h; simp
      · simp [h]; omega

/-- Two numbers that compare as equal and have one sign are the same word. -/
theorem same_word {a b : Nat} (ha : cl .f32 a = some a) (hb : cl .f32 b = some b) (wa : a < 2 ^ 32) (wb : b < 2 ^ 32) :
    ((ford .f32 (some a) (some b) == some .eq) && (sgn FloatKind.f32.format a == sgn FloatKind.f32.format b)) = decide (some a = some b) := by
  rw [ford_key ha hb, compare_eq]
  by_cases h : a = b
  · subst h; simp
  · have hne : some a ≠ some b := fun e => h (Option.some.inj e)
    rw [decide_eq_false hne]
    by_cases hs : sgn FloatKind.f32.format a = sgn FloatKind.f32.format b
    · have : key FloatKind.f32.format a ≠ key FloatKind.f32.format b := fun e => by
        unfold key at e
        rw [hs] at e
        have : rung FloatKind.f32.format a = rung FloatKind.f32.format b := by
          unfold sg at e; split at e <;> omega
        exact h (bits_inj (k := .f32) (by rw [sw32]; omega) (by rw [sw32]; omega) hs this)
      simp [this]
    · simp [hs]

/-- Against zero. -/
theorem key_zero (k : FloatKind) : key k.format 0 = 0 := by cases k <;> decide
theorem key_eq_zero (f : Format) (b : Nat) : key f b = 0 ↔ rung f b = 0 := by
  unfold key sg; split <;> omega
theorem ford_zero {k : FloatKind} {b : Nat} (h : cl k b = some b) : ford k (some b) (cl k 0) = some (compare (key k.format b) 0) := by
  rw [cl_zero, ford_key h (cl_zero k), key_zero]
theorem ford_zero_eq {k : FloatKind} {b : Nat} (h : cl k b = some b) (hr : rung k.format b = 0) : ford k (some b) (cl k 0) = some .eq := by
  rw [ford_zero h, (key_eq_zero _ _).2 hr]; rfl
theorem ford_zero_ne {k : FloatKind} {b : Nat} (h : cl k b = some b) (hr : rung k.format b ≠ 0) : (ford k (some b) (cl k 0) != some .eq) = true ∧ (ford k (some b) (cl k 0) == some .eq) = false := by
  have : ford k (some b) (cl k 0) ≠ some .eq := by
    rw [ford_zero h, compare_int]
    intro e
    have hk := fun e => hr ((key_eq_zero k.format b).1 e)
    rw [if_neg hk] at e
    split at e <;> cases e
  exact ⟨by simpa using this, by simpa using this⟩

/-- A 32-bit word is subnormal, or a zero: its exponent's bits are all zero. -/
theorem mask_eq {b : Nat} (h : b < 2 ^ 32) : (bits .and .i64 (b : Int) 2139095040 == 0) = decide (rung FloatKind.f32.format b < 2 ^ 23) := by
  rw [bits_exp b h, rung32, Bool.eq_iff_iff, decide_eq_true_eq, beq_iff_eq]
  omega
def least64 : Nat := 4039728865751334912
theorem up_least : up (2 ^ 23) = least64 := by decide
theorem least_word : rung FloatKind.f64.format least64 = least64 ∧ sgn FloatKind.f64.format least64 = false ∧ least64 ≤ FloatKind.f64.format.infRung := by decide
theorem cl_least : cl .f64 4039728865751334912 = some least64 := cl_of_rung (b := least64) (by rw [least_word.1]; exact least_word.2.2)
theorem key_least : key FloatKind.f64.format least64 = (least64 : Int) := by unfold key; rw [least_word.1, least_word.2.1]; rfl
/-- 'math.Abs(float64(x)) < 0x1p-126'. -/
theorem below_least {a c : Nat} (h : cl .f32 a = some c) : (ford .f64 (absC (widen (some c))) (cl .f64 4039728865751334912) == some .lt) = decide (rung FloatKind.f32.format c < 2 ^ 23) := by
  obtain ⟨d, h1, h2, h3, h4, h5⟩ := widen_cl h
  have h6 : cl .f64 (d % 2 ^ 63) = some (d % 2 ^ 63) := by rw [cl_abs, h2]; rfl
  rw [h1]
  show (ford .f64 (some (d % 2 ^ 63)) _ == some .lt) = _
  rw [cl_least, ford_key h6 (cl_idem cl_least), key_abs, key_least, compare_lt, h5, ← up_least]
  have hr := rung_le h
  rw [Bool.eq_iff_iff, decide_eq_true_eq, decide_eq_true_eq, ← up_cmp hr (by decide)]
  omega

/-- Whether a class is subnormal. -/
def subC : Option Nat → Bool
  | none => false
  | some b => decide (rung FloatKind.f32.format b ≠ 0 ∧ rung FloatKind.f32.format b < 2 ^ 23)
/-- A number, but a zero of its sign where it is subnormal. -/
def flushC : Option Nat → Option Nat
  | none => none
  | some b => if rung FloatKind.f32.format b < 2 ^ 23 then some (b / 2 ^ 31 * 2 ^ 31) else some b

theorem signbit_eq (b : Nat) : decide (RowKit.wrap64 (b : Int) < 0) = sgn FloatKind.f64.format b := by
  unfold sgn RowKit.wrap64
  rw [sw64, Bool.eq_iff_iff, decide_eq_true_eq, beq_iff_eq]
  omega

/-- 'math.Copysign(0, x)'. -/
theorem copysign_eq (c : Nat) : (bits .or .u64 (bits .andNot .u64 0 9223372036854775808) (bits .and .u64 (c : Int) 9223372036854775808)).toNat = c / 2 ^ 63 % 2 * 2 ^ 63 := by
  rw [show (0 : Int) = ((0 : Nat) : Int) from rfl, bits_andNot63', bits_and63, bits_or63 _ _ (Nat.mod_lt _ (Nat.two_pow_pos _)) (Nat.mod_lt _ (by decide)), Nat.zero_mod, Nat.add_zero]

/-- A zero of either sign, narrowed. -/
theorem narrow_zero (s : Nat) (hs : s < 2) : fits (cl .f64 (s * 2 ^ 63)) = true ∧ narrow (cl .f64 (s * 2 ^ 63)) = some (s * 2 ^ 31) := by
  rcases (by omega : s = 0 ∨ s = 1) with rfl | rfl
  · exact ⟨by rw [Nat.zero_mul, cl_zero]; rfl, by rw [Nat.zero_mul, cl_zero]; rfl⟩
  · exact ⟨by rw [Nat.one_mul]; rfl, by rw [Nat.one_mul]; rfl⟩

theorem subC_zero {b : Nat} (h : rung FloatKind.f32.format b = 0) : subC (some b) = false := by simp [subC, h]

theorem sign_digit {x b : Nat} (h : sgn FloatKind.f64.format x = sgn FloatKind.f32.format b) (hb : b < 2 ^ 32) : x / 2 ^ 63 % 2 * 2 ^ 63 = b / 2 ^ 31 * 2 ^ 63 := by
  unfold sgn at h
  rw [sw64, sw32] at h
  congr 1
  have h2 : b / 2 ^ 31 < 2 := Nat.div_lt_of_lt_mul (by omega)
  rcases Nat.mod_two_eq_zero_or_one (x / 2 ^ 63) with h1 | h1
  · rw [h1] at h ⊢
    rcases (by omega : b / 2 ^ 31 = 0 ∨ b / 2 ^ 31 = 1) with h3 | h3
    · exact h3.symm
    · rw [h3] at h; cases h
  · rw [h1] at h ⊢
    rcases (by omega : b / 2 ^ 31 = 0 ∨ b / 2 ^ 31 = 1) with h3 | h3
    · rw [h3] at h; cases h
    · exact h3.symm
theorem flushC_sub {b : Nat} (h : rung FloatKind.f32.format b < 2 ^ 23) : flushC (some b) = some (b / 2 ^ 31 * 2 ^ 31) := by simp [flushC, h]
theorem flushC_not {b : Nat} (h : ¬ rung FloatKind.f32.format b < 2 ^ 23) : flushC (some b) = some b := by simp [flushC, h]
theorem flushC_zero {b : Nat} (h : rung FloatKind.f32.format b = 0) : flushC (some b) = some b := by
  rw [flushC_sub (by omega)]
  rw [rung32] at h
  congr 1; omega
theorem cl_sign (b : Nat) : cl .f32 (b / 2 ^ 31 * 2 ^ 31) = some (b / 2 ^ 31 * 2 ^ 31) := by
  refine cl_of_rung ?_
  rw [rung32, Nat.mul_mod_left]
  exact Nat.zero_le _
theorem subC_true {b : Nat} (h0 : rung FloatKind.f32.format b ≠ 0) (h : rung FloatKind.f32.format b < 2 ^ 23) : subC (some b) = true := by simp [subC, h0, h]
theorem subC_false {b : Nat} (h : ¬ rung FloatKind.f32.format b < 2 ^ 23) : subC (some b) = false := by simp [subC, h]

end Go.Fl
