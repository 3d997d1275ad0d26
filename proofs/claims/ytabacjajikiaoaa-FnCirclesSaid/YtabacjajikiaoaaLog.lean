/- The logarithm, on classes: halving and doubling step a word by one binade; what the program and the reference both compute, and how great it is. -/
import Derived.Test.YtabacjajikiaoaaAng
namespace Go.Fl
open Ieee

theorem fop_quo (a b : Nat) : fop .quo .f64 (some a) (some b) = FloatKind.f64.format.div a b := rfl
theorem fop_mul (a b : Nat) : fop .mul .f64 (some a) (some b) = FloatKind.f64.format.mul a b := rfl
theorem write_num (s : Bool) (m : Nat) (p : Int) : FloatKind.f64.format.write (.number s m p) = FloatKind.f64.format.nearest s m p := rfl
theorem lp64 : FloatKind.f64.format.leastPlace = -1074 := by decide
theorem inf64 : FloatKind.f64.format.infRung = 2047 * 2 ^ 52 := by decide
theorem val_step {r : Nat} (h : 2 ^ 52 ≤ r) : val FloatKind.f64.format (r + 2 ^ 52) = 2 * val FloatKind.f64.format r := by
  unfold val
  rw [bin64, if_neg (by omega), if_neg (by omega), Nat.add_mod_right, Nat.add_div_right _ (by decide)]
  have h1 : 1 ≤ r / 2 ^ 52 := (Nat.le_div_iff_mul_le (by decide)).2 (by omega)
  have h2 : 2 ^ (r / 2 ^ 52 + 1 - 1) = 2 * 2 ^ (r / 2 ^ 52 - 1) := by
    rw [← Nat.pow_succ']; congr 1; omega
  rw [h2, Nat.mul_left_comm]
theorem pos_word {r : Nat} (h : r < 2 ^ 63) : sgn FloatKind.f64.format r = false ∧ rung FloatKind.f64.format r = r := by
  refine ⟨?_, Nat.mod_eq_of_lt h⟩
  show (r / 2 ^ 63 % 2 == 1) = false
  rw [Nat.div_eq_of_lt h]; rfl
theorem read_two : FloatKind.f64.format.read 4611686018427387904 = .number false (2 ^ 52) (-51) := by decide +kernel
theorem word_pos (r : Nat) : FloatKind.f64.format.word false r = r := by unfold Format.word; simp
theorem two_pow_pos63 : 2047 * 2 ^ 52 < 2 ^ 63 := by decide
theorem quot_num (d : Nat) (s t : Bool) (m n : Nat) (i j : Int) (hn : n ≠ 0) : (Datum.number s m i).quotient d (.number t n j) =
    some (.number (s ^^ t) (2 * (m <<< (d + n.log2 - m.log2) / n) + (m <<< (d + n.log2 - m.log2) % n != 0).toNat) (i - j - (d + n.log2 - m.log2 : Nat) - 1)) := by
  simp only [Datum.quotient, hn, if_false]
/-- Half a number lies one binade below it. -/
theorem half_word {r : Nat} (h1 : 2 ^ 52 ≤ r) (h2 : r + 2 ^ 52 < 2047 * 2 ^ 52) : fop .quo .f64 (some (r + 2 ^ 52)) (some 4611686018427387904) = some r := by
  have hw := pos_word (r := r + 2 ^ 52) (Nat.lt_trans h2 two_pow_pos63)
  obtain ⟨m, p, e, hp, hv, hm⟩ := read_fin FloatKind.f64.format (b := r + 2 ^ 52) (by rw [hw.2, inf64]; exact h2)
  rw [hw.1] at e
  rw [hw.2, val_step h1, lp64] at hv
  rw [lp64] at hp
  rw [bin64] at hm
  have hm0 : m ≠ 0 := by
    intro hm0
    rw [hm0, Nat.zero_mul] at hv
    have := val_lt FloatKind.f64.format (r := 0) (s := r) (Nat.lt_of_lt_of_le (by decide) h1)
    omega
  have hlog : m.log2 ≤ 52 := by
    have := (Nat.log2_lt hm0).2 (show m < 2 ^ 53 by omega)
    omega
  rw [fop_quo]
  unfold Format.div
  rw [e, read_two]
  rw [quot_num _ _ _ _ _ _ _ (by decide), Nat.log2_two_pow, show FloatKind.f64.format.fractionBits + 2 = 54 by decide]
  obtain ⟨k, hk⟩ : ∃ k, 54 + 52 - m.log2 = k + 52 := ⟨54 - m.log2, by omega⟩
  rw [hk, Nat.shiftLeft_eq, Nat.pow_add, ← Nat.mul_assoc, Nat.mul_div_cancel _ (by decide), Nat.mul_mod_left]
  rw [Option.map_some, write_num, nearest_eq, Bool.xor_false, word_pos]
  refine congrArg some (near_exact FloatKind.f64.format (base := -1076 - k) (by omega) (by rw [lp64]; omega) (by rw [inf64]; omega) ?_)
  rw [lp64, show (-1074 - (-1076 - (k : Int))).toNat = k + 2 by omega, show (p - -51 - ((k + 52 : Nat) : Int) - 1 - (-1076 - (k : Int))).toNat = (p - -1074).toNat by omega]
  show (2 * (m * 2 ^ k) + 0) * 2 ^ (p - -1074).toNat = _
  rw [Nat.add_zero, show 2 * (m * 2 ^ k) * 2 ^ (p - -1074).toNat = 2 * 2 ^ k * (m * 2 ^ (p - -1074).toNat) by simp only [Nat.mul_assoc, Nat.mul_left_comm], hv, Nat.pow_add]
  generalize (2 : Nat) ^ k = g
  rw [show (2 : Nat) ^ 2 = 2 * 2 by decide]
  simp only [Nat.mul_assoc, Nat.mul_left_comm, Nat.mul_comm]
/-- Twice a number lies one binade above it. -/
theorem dbl_word {r : Nat} (h1 : 2 ^ 52 ≤ r) (h2 : r + 2 ^ 52 < 2047 * 2 ^ 52) : fop .mul .f64 (some r) (some 4611686018427387904) = some (r + 2 ^ 52) := by
  have hw := pos_word (r := r) (Nat.lt_trans (by omega) two_pow_pos63)
  obtain ⟨m, p, e, hp, hv, hm⟩ := read_fin FloatKind.f64.format (b := r) (by rw [hw.2, inf64]; omega)
  rw [hw.1] at e
  rw [hw.2, lp64] at hv
  rw [lp64] at hp
  rw [fop_mul]
  unfold Format.mul
  rw [e, read_two]
  unfold Datum.product
  rw [Option.map_some, write_num, Bool.xor_false, nearest_eq, word_pos]
  refine congrArg some (near_exact FloatKind.f64.format (base := -1125) (by omega) (by rw [lp64]; omega) (by rw [inf64]; omega) ?_)
  rw [lp64, val_step h1, ← hv, show (p + -51 - -1125).toNat = (p - -1074).toNat by omega, show (-1074 - -1125 : Int).toNat = 51 by omega]
  generalize (2 : Nat) ^ (p - -1074).toNat = g
  rw [show (2 : Nat) ^ 52 = 2 * 2 ^ 51 by decide]
  simp only [Nat.mul_assoc, Nat.mul_left_comm, Nat.mul_comm]

/-! The steps that bring a number between 0.75 and 1.5, by its word. -/
def logE (r : Nat) : Nat := (r + 4503599627370496 - 4609434218613702656) / 4503599627370496
def logA (r : Nat) : Nat := r - logE r * 4503599627370496
def logD (r : Nat) : Nat := (4604930618986332160 + 4503599627370495 - logA r) / 4503599627370496
def logW (r : Nat) : Nat := logA r + logD r * 4503599627370496
/-- A positive number whose word lies where those of format single lie. -/
def LogOk (r : Nat) : Prop := 874 * 4503599627370496 ≤ r ∧ r < 1151 * 4503599627370496
theorem logE_step {r k : Nat} (hk : k ≤ logE r) : decide (4609434218613702656 ≤ r - k * 4503599627370496) = decide (k < logE r) := by
  unfold logE at *
  refine decide_eq_decide.2 ⟨fun h => ?_, fun h => ?_⟩ <;> omega
theorem logE_le {r : Nat} (h : LogOk r) : logE r ≤ 128 := by unfold logE; unfold LogOk at h; omega
theorem logE_low {r k : Nat} (h : LogOk r) (hk : k ≤ logE r) : 874 * 4503599627370496 ≤ r - k * 4503599627370496 ∧ r - k * 4503599627370496 < 1151 * 4503599627370496 := by
  unfold logE at hk; unfold LogOk at h; omega
theorem logE_next {r k : Nat} (h : LogOk r) (hk : k < logE r) : r - k * 4503599627370496 = r - (k + 1) * 4503599627370496 + 4503599627370496 := by
  unfold logE at hk; unfold LogOk at h; omega
theorem logA_lt {r : Nat} (h : LogOk r) : 874 * 4503599627370496 ≤ logA r ∧ logA r < 4609434218613702656 := by
  unfold logA logE; unfold LogOk at h; omega
theorem logD_step {r k : Nat} (h : LogOk r) (hk : k ≤ logD r) : decide (logA r + k * 4503599627370496 < 4604930618986332160) = decide (k < logD r) := by
  have := logA_lt h
  unfold logD at *
  refine decide_eq_decide.2 ⟨fun h => ?_, fun h => ?_⟩ <;> omega
theorem logD_le {r : Nat} (h : LogOk r) : logD r ≤ 160 := by have := logA_lt h; unfold logD; omega
theorem logD_high {r k : Nat} (h : LogOk r) (hk : k ≤ logD r) : logA r + k * 4503599627370496 < 4609434218613702656 := by
  have := logA_lt h; unfold logD at hk; omega
theorem logW_in {r : Nat} (h : LogOk r) : 4604930618986332160 ≤ logW r ∧ logW r < 4609434218613702656 := by
  have h1 := logA_lt h
  have h2 := logD_high h (Nat.le_refl _)
  refine ⟨?_, h2⟩
  unfold logW logD; omega

theorem cl_pos {x : Nat} (h : x < 2047 * 2 ^ 52) : cl .f64 x = some x := by
  have hw := pos_word (r := x) (Nat.lt_trans h two_pow_pos63)
  exact cl_of_rung (by rw [hw.2, inf64]; exact Nat.le_of_lt h)
theorem key_pos {x : Nat} (h : x < 2047 * 2 ^ 52) : key FloatKind.f64.format x = x := by
  have hw := pos_word (r := x) (Nat.lt_trans h two_pow_pos63)
  unfold key sg
  rw [hw.1, hw.2]; rfl
theorem ford_pos {x y : Nat} (hx : x < 2047 * 2 ^ 52) (hy : y < 2047 * 2 ^ 52) : ford .f64 (cl .f64 x) (cl .f64 y) = some (if (x : Int) < y then .lt else if (x : Int) = y then .eq else .gt) := by
  rw [cl_pos hx, cl_pos hy, ford_key (cl_pos hx) (cl_pos hy), key_pos hx, key_pos hy]; rfl
theorem fge_pos {x y : Nat} (hx : x < 2047 * 2 ^ 52) (hy : y < 2047 * 2 ^ 52) : (fgt .f64 (cl .f64 x) (cl .f64 y) || feq .f64 (cl .f64 x) (cl .f64 y)) = decide (y ≤ x) := by
  unfold fgt feq
  rw [ford_pos hx hy]
  by_cases h1 : (x : Int) < y
  · rw [if_pos h1, decide_eq_false (by omega)]; rfl
  · rw [if_neg h1, decide_eq_true (by omega)]
    by_cases h2 : (x : Int) = y
    · rw [if_pos h2]; rfl
    · rw [if_neg h2]; rfl
theorem flt_pos {x y : Nat} (hx : x < 2047 * 2 ^ 52) (hy : y < 2047 * 2 ^ 52) : flt .f64 (cl .f64 x) (cl .f64 y) = decide (x < y) := by
  unfold flt
  rw [ford_pos hx hy]
  by_cases h1 : (x : Int) < y
  · rw [if_pos h1, decide_eq_true (by omega)]; rfl
  · rw [if_neg h1, decide_eq_false (by omega)]
    by_cases h2 : (x : Int) = y
    · rw [if_pos h2]; rfl
    · rw [if_neg h2]; rfl

theorem i2f_up : ∀ k : Nat, k < 130 → fop .add .f64 (i2f k) c1 = i2f (k + 1) := by decide +kernel
theorem i2f_down : ∀ k : Nat, k < 300 → fop .sub .f64 (i2f (130 - (k : Int))) c1 = i2f (130 - (k : Int) - 1) := by decide +kernel

theorem LeE.sub_nn {c d : Option Nat} {E : Nat} (hc : NnE c E) (hd : NnE d E) (hE : 1 ≤ E) (hE2 : E < 2047) : LeE (fop .sub .f64 c d) E := by
  obtain ⟨a, m, p, rfl, e1, s1⟩ := NnE.read hc hE hE2
  obtain ⟨b, n, q, rfl, e2, s2⟩ := NnE.read hd hE hE2
  show LeE (FloatKind.f64.format.sub a b) E
  unfold Format.sub
  rw [e1, e2]
  exact LeE.write hE hE2 (Sz.sub_nonneg s1 s2)
theorem fadd_comm {a b : Nat} {s t : Bool} {m n : Nat} {p q : Int} (e1 : FloatKind.f64.format.read a = .number s m p) (e2 : FloatKind.f64.format.read b = .number t n q) : fop .add .f64 (some a) (some b) = fop .add .f64 (some b) (some a) := by
  show FloatKind.f64.format.add a b = FloatKind.f64.format.add b a
  unfold Format.add
  rw [e1, e2]
  simp only [Datum.sum, Int.min_comm p q, Int.add_comm (signed s _ _), Bool.and_comm s t]
theorem NnE.add_ge' {c d : Option Nat} {E F : Nat} (hc : NnE c E) (hd : NnE d E) (hE : 1 ≤ E) (hE2 : E + 1 < 2047) (hge : GeE d F) (hF : 1 ≤ F) : GeE (fop .add .f64 c d) F := by
  obtain ⟨a, m, p, rfl, e1, s1⟩ := NnE.read hc hE (by omega)
  obtain ⟨b, n, q, rfl, e2, s2⟩ := NnE.read hd hE (by omega)
  rw [fadd_comm e1 e2]
  exact NnE.add_ge hd hc hE hE2 hge hF

def logP (u : Option Nat) : Nat → Option Nat
  | 0 => cl .f64 0
  | j + 1 => fop .add .f64 (fop .quo .f64 c1 (i2f (25 - 2 * (j : Int)))) (fop .mul .f64 u (logP u j))
def logS (y : Option Nat) : Option Nat := fop .quo .f64 (fop .sub .f64 y c1) (fop .add .f64 y c1)
def logOut (y : Option Nat) (n : Int) : Option Nat :=
  fop .add .f64 (fop .mul .f64 (cl .f64 4611686018427387904) (fop .mul .f64 (logS y) (logP (fop .mul .f64 (logS y) (logS y)) 13))) (fop .mul .f64 (i2f n) (cl .f64 4604418534313441775))
def logC (r : Nat) : Option Nat := logOut (cl .f64 (logW r)) ((logE r : Int) - (logD r : Int))

def leB (c : Option Nat) (E : Nat) : Bool := match c with
  | some b => decide (rung FloatKind.f64.format b ≤ E * 2 ^ 52)
  | none => false
theorem leB_le {c : Option Nat} {E : Nat} (h : leB c E = true) : LeE c E := by
  unfold leB at h
  split at h
  · exact ⟨_, rfl, by simpa using h⟩
  · cases h
def geB (c : Option Nat) (F : Nat) : Bool := match c with
  | some b => decide (F * 2 ^ 52 ≤ rung FloatKind.f64.format b) && decide (rung FloatKind.f64.format b < FloatKind.f64.format.infRung)
  | none => false
theorem geB_ge {c : Option Nat} {F : Nat} (h : geB c F = true) : GeE c F := by
  unfold geB at h
  split at h
  · rw [Bool.and_eq_true] at h
    exact ⟨_, rfl, by simpa using h.1, by simpa using h.2⟩
  · cases h
theorem i2f_small : ∀ k : Nat, k < 300 → leB (i2f (130 - (k : Int))) 1031 = true := by decide +kernel
theorem i2f_odd : ∀ j : Nat, j < 13 → geB (i2f (25 - 2 * (j : Int))) 1023 = true := by decide +kernel
theorem logP_le {u : Option Nat} (h : LeE u 1025) : ∀ j, j ≤ 13 → LeE (logP u j) (1023 + 3 * j)
  | 0, _ => ⟨0, (by decide +kernel : cl .f64 0 = some 0), by decide +kernel⟩
  | j + 1, hj => by
    have h1 : LeE (fop .quo .f64 c1 (i2f (25 - 2 * (j : Int)))) 1023 := LeE.quo c1_nn.le (geB_ge (i2f_odd j (by omega))) (by decide) (by decide) (by decide) (by decide) (by decide) (by decide)
    have h2 : LeE (fop .mul .f64 u (logP u j)) (1025 + 3 * j) := LeE.mul h (logP_le h j (by omega)) (by decide) (by omega) (by decide) (by omega) (by omega) (by omega) (by omega)
    exact LeE.add (h1.mono (by omega)) h2 (by omega) (by omega) (by omega)
theorem logOut_le {y : Option Nat} {k : Nat} (h : NnE y 1024) (hk : k < 300) : LeE (logOut y (130 - (k : Int))) 1065 := by
  have c := c1_nn.mono (E' := 1024) (by decide)
  have h1 := LeE.sub_nn h c (by decide) (by decide)
  have h2 := NnE.add_ge' h c (by decide) (by decide) c1_ge (by decide)
  have h3 : LeE (logS y) 1024 := LeE.quo h1 h2 (by decide) (by decide) (by decide) (by decide) (by decide) (by decide)
  have h4 : LeE (fop .mul .f64 (logS y) (logS y)) 1025 := LeE.mul h3 h3 (by decide) (by decide) (by decide) (by decide) (by decide) (by decide) (by decide)
  have h5 : LeE (logP (fop .mul .f64 (logS y) (logS y)) 13) 1062 := logP_le h4 13 (Nat.le_refl _)
  have h6 : LeE (fop .mul .f64 (logS y) (logP (fop .mul .f64 (logS y) (logS y)) 13)) 1063 := LeE.mul h3 h5 (by decide) (by decide) (by decide) (by decide) (by decide) (by decide) (by decide)
  have h7 : LeE (fop .mul .f64 (cl .f64 4611686018427387904) (fop .mul .f64 (logS y) (logP (fop .mul .f64 (logS y) (logS y)) 13))) 1064 :=
    LeE.mul (leB_le (by decide +kernel : leB (cl .f64 4611686018427387904) 1024 = true)) h6 (by decide) (by decide) (by decide) (by decide) (by decide) (by decide) (by decide)
  have h8 : LeE (fop .mul .f64 (i2f (130 - (k : Int))) (cl .f64 4604418534313441775)) 1031 :=
    LeE.mul (leB_le (i2f_small k hk)) (leB_le (by decide +kernel : leB (cl .f64 4604418534313441775) 1023 = true)) (by decide) (by decide) (by decide) (by decide) (by decide) (by decide) (by decide)
  exact LeE.add h7 (h8.mono (by decide)) (by decide) (by decide) (by decide)
theorem logC_le {r : Nat} (h : LogOk r) : LeE (logC r) 1065 := by
  have hw := logW_in h
  have hE := logE_le h
  have hD := logD_le h
  have hy : NnE (cl .f64 (logW r)) 1024 := by
    have hp := pos_word (r := logW r) (Nat.lt_trans hw.2 (by decide))
    exact ⟨_, cl_pos (Nat.lt_trans hw.2 (by decide)), hp.1, by rw [hp.2]; omega⟩
  unfold logC
  rw [show (logE r : Int) - (logD r : Int) = 130 - ((130 + logD r - logE r : Nat) : Int) by omega]
  exact logOut_le hy (by omega)

theorem log_word {a c : Nat} (h : cl .f32 a = some c) (hs : sgn FloatKind.f32.format c = false) (h0 : rung FloatKind.f32.format c ≠ 0) (hf : rung FloatKind.f32.format c < FloatKind.f32.format.infRung) : ∃ d, widen (some c) = some d ∧ LogOk d := by
  obtain ⟨d, h1, -, h3, h4, h5⟩ := widen_cl h
  refine ⟨d, h1, ?_⟩
  rw [hs] at h4
  have hd : d = rung FloatKind.f64.format d := by
    show d = d % 2 ^ 63
    have h6 : (d / 2 ^ 63 % 2 == 1) = false := h4
    have h7 : d / 2 ^ 63 < 2 := Nat.div_lt_of_lt_mul (by omega)
    have h8 : d / 2 ^ 63 = 0 := by
      rcases (by omega : d / 2 ^ 63 = 0 ∨ d / 2 ^ 63 = 1) with h | h
      · exact h
      · rw [h] at h6; exact absurd h6 (by decide)
    have := Nat.div_add_mod d (2 ^ 63)
    rw [h8] at this
    omega
  have e1 : up 1 = 874 * 4503599627370496 := by decide +kernel
  have e2 : up (FloatKind.f32.format.infRung - 1) < 1151 * 4503599627370496 := by decide +kernel
  have e3 : ∀ {x y : Nat}, x ≤ y → y ≤ FloatKind.f32.format.infRung → up x ≤ up y := fun {x y} hxy hy => by
    rcases Nat.lt_or_eq_of_le hxy with h | h
    · exact Nat.le_of_lt (up_lt h hy)
    · rw [h]; exact Nat.le_refl _
  unfold LogOk
  rw [hd, h5, ← e1]
  exact ⟨e3 (by omega) (by omega), Nat.lt_of_le_of_lt (e3 (by omega) (by omega)) e2⟩

def fbits : Value → Nat
  | .float _ b => b
  | _ => 0
theorem two_cl : cl .f64 4611686018427387904 = some 4611686018427387904 := by decide +kernel
theorem log_half {r k b : Nat} (h : LogOk r) (hk : k < logE r) (hb : cl .f64 b = fop .quo .f64 (cl .f64 (r - k * 4503599627370496)) (cl .f64 4611686018427387904)) : b = r - (k + 1) * 4503599627370496 := by
  have h1 := logE_low h (k := k + 1) hk
  have h2 := logE_low h (Nat.le_of_lt hk)
  rw [two_cl, cl_pos (x := r - k * 4503599627370496) (by omega), logE_next h hk, half_word (by omega) (by omega)] at hb
  exact (cl_some hb).1
theorem dbl_at {x b : Nat} (h4 : 874 * 4503599627370496 ≤ x) (h3 : x + 4503599627370496 < 4609434218613702656) (hb : cl .f64 b = fop .mul .f64 (cl .f64 x) (cl .f64 4611686018427387904)) : b = x + 4503599627370496 := by
  have h5 : x < 2047 * 2 ^ 52 := Nat.lt_trans (by omega : x < 4609434218613702656) (by decide)
  have h6 : 2 ^ 52 ≤ x := Nat.le_trans (by decide) h4
  have h7 : x + 2 ^ 52 < 2047 * 2 ^ 52 := Nat.lt_trans h3 (by decide)
  rw [two_cl, cl_pos h5, dbl_word h6 h7] at hb
  exact (cl_some hb).1
theorem log_dbl {r k b : Nat} (h : LogOk r) (hk : k < logD r) (hb : cl .f64 b = fop .mul .f64 (cl .f64 (logA r + k * 4503599627370496)) (cl .f64 4611686018427387904)) : b = logA r + (k + 1) * 4503599627370496 := by
  have h1 := logD_high h (k := k + 1) hk
  have h2 := logA_lt h
  have h3 : logA r + k * 4503599627370496 + 4503599627370496 < 4609434218613702656 := by omega
  have h8 := dbl_at (x := logA r + k * 4503599627370496) (by omega) h3 hb
  omega
theorem log_ge {r k : Nat} (h : LogOk r) (hk : k ≤ logE r) : (fgt .f64 (cl .f64 (r - k * 4503599627370496)) (cl .f64 4609434218613702656) || feq .f64 (cl .f64 (r - k * 4503599627370496)) (cl .f64 4609434218613702656)) = decide (k < logE r) := by
  have h2 := logE_low h hk
  rw [fge_pos (by omega) (by omega), logE_step hk]
theorem log_lt {r k : Nat} (h : LogOk r) (hk : k ≤ logD r) : flt .f64 (cl .f64 (logA r + k * 4503599627370496)) (cl .f64 4604930618986332160) = decide (k < logD r) := by
  have h2 := logD_high h hk
  rw [flt_pos (by omega) (by omega), logD_step h hk]
theorem i2f_sub {r k : Nat} (h : LogOk r) (hk : k < logD r) : fop .sub .f64 (i2f ((logE r : Int) - (k : Int))) c1 = i2f ((logE r : Int) - ((k + 1 : Nat) : Int)) := by
  have h1 := logE_le h
  have h2 := logD_le h
  have := i2f_down (130 + k - logE r) (by omega)
  rw [show (130 : Int) - ((130 + k - logE r : Nat) : Int) = (logE r : Int) - (k : Int) by omega] at this
  rw [this]; congr 1; omega

theorem logA_eq (r : Nat) : r - logE r * 4503599627370496 = logA r := by rw [logA]
theorem logW_eq (r : Nat) : logA r + logD r * 4503599627370496 = logW r := by rw [logW]
theorem zero_cl : cl .f64 0 = i2f ((0 : Nat) : Int) := by decide +kernel

theorem i2f_up1 {k r : Nat} (h : LogOk r) (hk : k < logE r) : fop .add .f64 (i2f ((k : Nat) : Int)) (cl .f64 4607182418800017408) = i2f ((k + 1 : Nat) : Int) := by
  have h1 := logE_le h
  have h2 := i2f_up k (by omega)
  rw [Int.natCast_succ]
  exact h2
theorem i2f_sub1 {r k : Nat} (h : LogOk r) (hk : k < logD r) : fop .sub .f64 (i2f ((logE r : Int) - (k : Int))) (cl .f64 4607182418800017408) = i2f ((logE r : Int) - ((k + 1 : Nat) : Int)) := i2f_sub h hk

/-! The steps behind names: no product with a great number stands in a walk. -/
def stepE (r k : Nat) : Nat := r - k * 4503599627370496
def stepD (r k : Nat) : Nat := logA r + k * 4503599627370496
theorem stepE_zero (r : Nat) : r = stepE r 0 := by unfold stepE; omega
theorem stepE_end (r : Nat) : stepE r (logE r) = logA r := logA_eq r
theorem stepD_zero (r : Nat) : logA r = stepD r 0 := by unfold stepD; omega
theorem stepD_end (r : Nat) : stepD r (logD r) = logW r := logW_eq r
theorem stepE_ge {r k : Nat} (h : LogOk r) (hk : k ≤ logE r) : (fgt .f64 (cl .f64 (stepE r k)) (cl .f64 4609434218613702656) || feq .f64 (cl .f64 (stepE r k)) (cl .f64 4609434218613702656)) = decide (k < logE r) := log_ge h hk
theorem stepD_lt {r k : Nat} (h : LogOk r) (hk : k ≤ logD r) : flt .f64 (cl .f64 (stepD r k)) (cl .f64 4604930618986332160) = decide (k < logD r) := log_lt h hk
theorem stepE_half {r k b : Nat} (h : LogOk r) (hk : k < logE r) (hb : cl .f64 b = fop .quo .f64 (cl .f64 (stepE r k)) (cl .f64 4611686018427387904)) : b = stepE r (k + 1) := log_half h hk hb
theorem stepD_dbl {r k b : Nat} (h : LogOk r) (hk : k < logD r) (hb : cl .f64 b = fop .mul .f64 (cl .f64 (stepD r k)) (cl .f64 4611686018427387904)) : b = stepD r (k + 1) := log_dbl h hk hb
theorem stepE_down {r k : Nat} (h : LogOk r) (hk : k < logE r) : stepE r (k + 1) < stepE r k := by
  have := logE_next h hk
  unfold stepE; omega
def top64 : Nat := 4609434218613702656
theorem stepD_up {r k : Nat} (h : LogOk r) (hk : k < logD r) : top64 - stepD r (k + 1) < top64 - stepD r k := by
  have := logD_high h (k := k + 1) hk
  unfold top64 stepD; omega

theorem log_notInf {r : Nat} (h : LogOk r) : fgt .f64 (cl .f64 r) (cl .f64 9218868437227405311) = false := by
  unfold LogOk at h
  unfold fgt
  rw [ford_pos (x := r) (by omega) (by decide), if_pos (by omega)]; rfl
theorem log_pos {r : Nat} (h : LogOk r) : flt .f64 (cl .f64 r) (cl .f64 0) = false ∧ feq .f64 (cl .f64 r) (cl .f64 0) = false ∧ (ford .f64 (cl .f64 r) (cl .f64 r) != some .eq) = false := by
  unfold LogOk at h
  refine ⟨?_, ?_, ?_⟩
  · rw [flt_pos (x := r) (by omega) (by decide)]; rfl
  · unfold feq
    rw [ford_pos (x := r) (by omega) (by decide), if_neg (by omega), if_neg (by omega)]; rfl
  · rw [ford_pos (x := r) (y := r) (by omega) (by omega), if_neg (by omega), if_pos rfl]; rfl

/-- What the logarithm's function returns. -/
def logR (x : Option Nat) : Option Nat :=
  match x with
  | none => none
  | some c =>
    if flt .f32 (some c) (cl .f32 0) then none else if feq .f32 (some c) (cl .f32 0) then narrow (cl .f64 18442240474082181120) else if isFin .f32 (some c) then narrow ((widen (some c)).bind logC) else some c

theorem key_up {k : FloatKind} {c : Nat} (h : cl k c = some c) (q1 : flt k (some c) (cl k 0) = false) (q2 : feq k (some c) (cl k 0) = false) : sgn k.format c = false ∧ rung k.format c ≠ 0 := by
  unfold flt at q1
  unfold feq at q2
  rw [ford_zero h] at q1 q2
  have e : ∀ a b : Int, compare a b = if a < b then .lt else if a = b then .eq else .gt := fun a b => rfl
  rw [e] at q1 q2
  have hk : 0 < key k.format c := by
    rcases Int.lt_trichotomy (key k.format c) 0 with h | h | h
    · rw [if_pos h] at q1; exact absurd q1 (by decide)
    · rw [if_neg (by omega), if_pos h] at q2; exact absurd q2 (by decide)
    · exact h
  unfold key sg at hk
  cases hs : sgn k.format c
  · refine ⟨rfl, fun h0 => ?_⟩
    rw [hs, h0] at hk; exact absurd hk (by decide)
  · rw [hs] at hk; simp at hk; omega
theorem log_fin {a c : Nat} (hc : cl .f32 a = some c) (q1 : flt .f32 (some c) (cl .f32 0) = false) (q2 : feq .f32 (some c) (cl .f32 0) = false) (q3 : isFin .f32 (some c) = true) : ∃ d, widen (some c) = some d ∧ LogOk d := by
  obtain ⟨h1, h2⟩ := key_up (cl_idem hc) q1 q2
  exact log_word hc h1 h2 (by simpa [isFin] using q3)
theorem flt_widen (a : Nat) : flt .f64 (widen (cl .f32 a)) (cl .f64 0) = flt .f32 (cl .f32 a) (cl .f32 0) := by
  unfold flt
  rw [← widen_zero, ford_widen]
/-- The same in 64 bits. -/
def logRW (x : Option Nat) : Option Nat :=
  match x with
  | none => none
  | some c =>
    if flt .f32 (some c) (cl .f32 0) then none else if feq .f32 (some c) (cl .f32 0) then cl .f64 18442240474082181120 else if isFin .f32 (some c) then (widen (some c)).bind logC else widen (some c)
theorem inf_word {a c : Nat} (wa : a < 2 ^ 32) (hc : cl .f32 a = some c) (q1 : flt .f32 (some c) (cl .f32 0) = false) (q2 : feq .f32 (some c) (cl .f32 0) = false) (q3 : isFin .f32 (some c) = false) : c = 2139095040 := by
  obtain ⟨h1, -⟩ := key_up (cl_idem hc) q1 q2
  have hr := rung_le hc
  obtain ⟨rfl, -⟩ := cl_some hc
  have h3 : ¬ rung FloatKind.f32.format a < FloatKind.f32.format.infRung := by simpa [isFin] using q3
  rw [inf32] at hr h3
  rw [rung32] at hr h3
  unfold sgn at h1
  rw [sw32] at h1
  have h4 : ¬ a / 2 ^ 31 % 2 = 1 := by simpa using h1
  omega
theorem logR_narrow {a : Nat} (wa : a < 2 ^ 32) : narrow (logRW (cl .f32 a)) = logR (cl .f32 a) ∧ fits (logRW (cl .f32 a)) = true := by
  rcases hc : cl .f32 a with _ | c
  · exact ⟨rfl, rfl⟩
  unfold logRW logR
  cases q1 : flt .f32 (some c) (cl .f32 0)
  case true => exact ⟨by simp only [q1, if_true]; rfl, by simp only [q1, if_true]; rfl⟩
  cases q2 : feq .f32 (some c) (cl .f32 0)
  case true => exact ⟨by simp only [q1, q2, if_true, if_neg Bool.false_ne_true], by simp only [q1, q2, if_true, if_neg Bool.false_ne_true]; decide +kernel⟩
  cases q3 : isFin .f32 (some c)
  case false =>
    obtain rfl := inf_word wa hc q1 q2 q3
    have e1 : narrow (widen (some 2139095040)) = some 2139095040 := by decide +kernel
    have e2 : fits (widen (some 2139095040)) = true := by decide +kernel
    simp only [q1, q2, q3, if_neg Bool.false_ne_true]
    exact ⟨e1, e2⟩
  obtain ⟨d, hd, hL⟩ := log_fin hc q1 q2 q3
  have F := fits_of_le (LeE.mono (logC_le hL) (by decide : 1065 ≤ 1150))
  have e3 : (some d).bind logC = logC d := Option.bind_some ..
  simp only [q1, q2, q3, hd, e3, F, if_true, if_neg Bool.false_ne_true, and_self]

end Go.Fl
