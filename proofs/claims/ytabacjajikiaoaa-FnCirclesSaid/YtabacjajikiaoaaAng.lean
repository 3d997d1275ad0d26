/- The angle of a point, on classes: what the program and the reference both compute, and that it fits format single. -/
import Derived.Test.YtabacjajikiaoaaOrb
namespace Go.Fl
open Ieee

def negC (c : Option Nat) : Option Nat := c.map (· ^^^ 2 ^ 63)
theorem rung_xor (b : Nat) : rung FloatKind.f64.format (b ^^^ 2 ^ 63) = rung FloatKind.f64.format b := by
  show (b ^^^ 2 ^ 63) % 2 ^ 63 = b % 2 ^ 63
  rw [Nat.xor_mod_two_pow, Nat.mod_self, Nat.xor_zero]
theorem cl_neg (b : Nat) : cl .f64 (Op.negFloat .f64 b) = negC (cl .f64 b) := by
  show cl .f64 (b ^^^ 2 ^ 63) = _
  have h := rung_xor b
  have h1 := read_isNaN FloatKind.f64.format b (fmt_pos .f64).2.2
  have h2 := read_isNaN FloatKind.f64.format (b ^^^ 2 ^ 63) (fmt_pos .f64).2.2
  rw [h, ← h1] at h2
  unfold cl negC
  rw [h2]
  split <;> rfl
theorem LeE.neg {c : Option Nat} {E : Nat} (h : LeE c E) : LeE (negC c) E := by
  obtain ⟨b, rfl, hb⟩ := h
  exact ⟨_, rfl, by rw [rung_xor]; exact hb⟩

/-- A quotient of two numbers, the divisor no less than the dividend. -/
theorem quo_one_sz {a b : Nat} (hr : rung FloatKind.f64.format a ≤ rung FloatKind.f64.format b) (hf : rung FloatKind.f64.format b < FloatKind.f64.format.infRung) (h0 : rung FloatKind.f64.format b ≠ 0) :
    ∃ m p, FloatKind.f64.format.div a b = some (FloatKind.f64.format.write (.number (sgn FloatKind.f64.format a ^^ sgn FloatKind.f64.format b) m p)) ∧ Sz m p 0 := by
  obtain ⟨m, p, e1, hp, hv, -⟩ := read_fin FloatKind.f64.format (Nat.lt_of_le_of_lt hr hf)
  obtain ⟨n, q, e2, hq, hw, -⟩ := read_fin FloatKind.f64.format hf
  have h3 := val_le FloatKind.f64.format hr
  rw [← hv, ← hw] at h3
  have hl : FloatKind.f64.format.leastPlace = -1074 := by decide
  rw [hl] at h3 hp hq
  have hn : n ≠ 0 := by
    intro hn
    rw [hn, Nat.zero_mul] at hw
    have := val_lt FloatKind.f64.format (Nat.pos_of_ne_zero h0)
    omega
  unfold Format.div
  rw [e1, e2]
  simp only [Datum.quotient, hn, if_false, Option.map_some]
  refine ⟨_, _, rfl, Sz.quo hn fun base h1 h2 => ?_⟩
  rw [Int.add_zero] at *
  rcases Int.le_total base (-1074) with hc | hc
  · have := Nat.mul_le_mul_right (2 ^ (-1074 - base).toNat) h3
    rw [Nat.mul_assoc, Nat.mul_assoc, ← Nat.pow_add, ← Nat.pow_add] at this
    rwa [show (p - -1074).toNat + (-1074 - base).toNat = (p - base).toNat by omega, show (q - -1074).toNat + (-1074 - base).toNat = (q - base).toNat by omega] at this
  · refine Nat.le_of_mul_le_mul_right ?_ (Nat.two_pow_pos (base + 1074).toNat)
    rw [Nat.mul_assoc, Nat.mul_assoc, ← Nat.pow_add, ← Nat.pow_add]
    rwa [show (p - base).toNat + (base + 1074).toNat = (p - -1074).toNat by omega, show (q - base).toNat + (base + 1074).toNat = (q - -1074).toNat by omega]
theorem quo_one {a b : Nat} (ha : sgn FloatKind.f64.format a = false) (hb : sgn FloatKind.f64.format b = false) (hr : rung FloatKind.f64.format a ≤ rung FloatKind.f64.format b) (hf : rung FloatKind.f64.format b < FloatKind.f64.format.infRung)
    (h0 : rung FloatKind.f64.format b ≠ 0) : NnE (fop .quo .f64 (some a) (some b)) 1023 := by
  obtain ⟨m, p, e, s⟩ := quo_one_sz hr hf h0
  show NnE (FloatKind.f64.format.div a b) 1023
  rw [e, ha, hb]
  exact NnE.write (by decide) (by decide) s

@[go_sem] theorem run_neg_float (P : Program) (w : World) (b : Nat) : (Op.unary .neg (.float .f64 b)).run P w = .ok (.float .f64 (Op.negFloat .f64 b)) w := rfl

def i2f (n : Int) : Option Nat := cl .f64 (floatOfInt .f64 n)
def c1 : Option Nat := cl .f64 4607182418800017408
def angStep (t : Option Nat) : Option Nat := fop .quo .f64 t (fop .add .f64 c1 (fsqrt (fop .add .f64 c1 (fop .mul .f64 t t))))
def angT (t : Option Nat) : Nat → Option Nat
  | 0 => t
  | k + 1 => angStep (angT t k)
def angP (u : Option Nat) : Nat → Option Nat
  | 0 => cl .f64 0
  | j + 1 => fop .sub .f64 (fop .quo .f64 c1 (i2f (15 - 2 * (j : Int)))) (fop .mul .f64 u (angP u j))
def angOut (t : Option Nat) : Option Nat := fop .quo .f64 (fop .mul .f64 (cl .f64 4620693217682128896) (fop .mul .f64 t (angP (fop .mul .f64 t t) 8))) (cl .f64 4618760256179416344)
def angTurn (over xneg yneg : Bool) (o : Option Nat) : Option Nat :=
  let o1 := if over then fop .sub .f64 (cl .f64 4598175219545276416) o else o
  let o2 := if xneg then fop .sub .f64 (cl .f64 4602678819172646912) o1 else o1
  if yneg then negC o2 else o2
def angC (y x : Option Nat) : Option Nat :=
  let a := absC y
  let b := absC x
  let over := fgt .f64 a b
  angTurn over (flt .f64 x (cl .f64 0)) (flt .f64 y (cl .f64 0)) (angOut (angT (if over then fop .quo .f64 b a else fop .quo .f64 a b) 3))

theorem c1_nn : NnE c1 1023 := ⟨4607182418800017408, by decide +kernel, by decide +kernel, by decide +kernel⟩
theorem c1_ge : GeE c1 1023 := ⟨4607182418800017408, by decide +kernel, by decide +kernel, by decide +kernel⟩
theorem nn_sgn {c : Option Nat} {E b : Nat} (h : NnE c E) (hb : c = some b) : sgn FloatKind.f64.format b = false := by
  obtain ⟨b', h1, h2, -⟩ := h
  rw [hb] at h1; injection h1 with h1; subst h1; exact h2
theorem angStep_nn {t : Option Nat} (h : NnE t 1023) : NnE (angStep t) 1023 := by
  have h1 : NnE (fop .mul .f64 t t) 1023 := NnE.mul h h (by decide) (by decide) (by decide) (by decide) (by decide) (by decide) (by decide)
  have h2 : NnE (fop .add .f64 c1 (fop .mul .f64 t t)) 1024 := NnE.add c1_nn h1 (by decide) (by decide) (by decide)
  have h3 : NnE (fsqrt (fop .add .f64 c1 (fop .mul .f64 t t))) 1026 := NnE.sqrt h2 (by decide) (by decide) (by decide) (by decide) (by decide)
  have h4 := NnE.add (c1_nn.mono (E' := 1026) (by decide)) h3 (by decide) (G := 1027) (by decide) (by decide)
  have h5 := NnE.add_ge (c1_nn.mono (E' := 1026) (by decide)) h3 (by decide) (by decide) c1_ge (by decide)
  exact NnE.quo h h5 (fun b hb => nn_sgn h4 hb) (by decide) (by decide) (by decide) (by decide) (by decide) (by decide)
theorem angT_nn {t : Option Nat} (h : NnE t 1023) : ∀ k, NnE (angT t k) 1023
  | 0 => h
  | k + 1 => angStep_nn (angT_nn h k)
theorem i2f_ge : ∀ j : Nat, j < 8 → GeE (i2f (15 - 2 * (j : Int))) 1023
  | 0, _ => ⟨_, rfl, by decide +kernel, by decide +kernel⟩
  | 1, _ => ⟨_, rfl, by decide +kernel, by decide +kernel⟩
  | 2, _ => ⟨_, rfl, by decide +kernel, by decide +kernel⟩
  | 3, _ => ⟨_, rfl, by decide +kernel, by decide +kernel⟩
  | 4, _ => ⟨_, rfl, by decide +kernel, by decide +kernel⟩
  | 5, _ => ⟨_, rfl, by decide +kernel, by decide +kernel⟩
  | 6, _ => ⟨_, rfl, by decide +kernel, by decide +kernel⟩
  | 7, _ => ⟨_, rfl, by decide +kernel, by decide +kernel⟩
  | n + 8, h => absurd h (by omega)
theorem angP_le {u : Option Nat} (h : LeE u 1023) : ∀ j, j ≤ 8 → LeE (angP u j) (1023 + j)
  | 0, _ => ⟨0, (by decide +kernel : cl .f64 0 = some 0), by decide +kernel⟩
  | j + 1, hj => by
    have h1 : LeE (fop .quo .f64 c1 (i2f (15 - 2 * (j : Int)))) 1023 := LeE.quo c1_nn.le (i2f_ge j (by omega)) (by decide) (by decide) (by decide) (by decide) (by decide) (by decide)
    have h2 : LeE (fop .mul .f64 u (angP u j)) (1023 + j) := LeE.mul h (angP_le h j (by omega)) (by decide) (by omega) (by decide) (by omega) (by omega) (by omega) (by omega)
    exact LeE.sub (h1.mono (by omega)) h2 (by omega) (by omega) (by omega)
theorem angOut_le {t : Option Nat} (h : NnE t 1023) : LeE (angOut t) 1040 := by
  have h1 : LeE (fop .mul .f64 t t) 1023 := LeE.mul h.le h.le (by decide) (by decide) (by decide) (by decide) (by decide) (by decide) (by decide)
  have h2 := angP_le h1 8 (by decide)
  have h3 : LeE (fop .mul .f64 t (angP (fop .mul .f64 t t) 8)) 1031 := LeE.mul h.le h2 (by decide) (by decide) (by decide) (by decide) (by decide) (by decide) (by decide)
  have h4 : LeE (cl .f64 4620693217682128896) 1026 := ⟨4620693217682128896, by decide +kernel, by decide +kernel⟩
  have h5 : LeE (fop .mul .f64 (cl .f64 4620693217682128896) (fop .mul .f64 t (angP (fop .mul .f64 t t) 8))) 1034 := LeE.mul h4 h3 (by decide) (by decide) (by decide) (by decide) (by decide) (by decide) (by decide)
  have h6 : GeE (cl .f64 4618760256179416344) 1024 := ⟨4618760256179416344, by decide +kernel, by decide +kernel, by decide +kernel⟩
  exact LeE.quo h5 h6 (by decide) (by decide) (by decide) (by decide) (by decide) (by decide)
theorem angTurn_le (over xneg yneg : Bool) {o : Option Nat} (h : LeE o 1040) : LeE (angTurn over xneg yneg o) 1042 := by
  have h1 : LeE (if over then fop .sub .f64 (cl .f64 4598175219545276416) o else o) 1041 := by
    cases over
    · exact h.mono (by decide)
    · exact LeE.sub (E := 1040) ⟨4598175219545276416, by decide +kernel, by decide +kernel⟩ h (by decide) (by decide) (by decide)
  have h2 : LeE (if xneg then fop .sub .f64 (cl .f64 4602678819172646912) (if over then fop .sub .f64 (cl .f64 4598175219545276416) o else o) else (if over then fop .sub .f64 (cl .f64 4598175219545276416) o else o)) 1042 := by
    cases xneg
    · exact h1.mono (by decide)
    · exact LeE.sub (E := 1041) ⟨4602678819172646912, by decide +kernel, by decide +kernel⟩ h1 (by decide) (by decide) (by decide)
  unfold angTurn
  cases yneg
  · exact h2
  · exact h2.neg
/-- The angle of a point that is not the origin fits. -/
theorem angC_fits {y x p q : Nat} (hy : cl .f64 y = some p) (hx : cl .f64 x = some q) (fy : isFin .f64 (some p) = true) (fx : isFin .f64 (some q) = true) (h0 : ¬ (rung FloatKind.f64.format p = 0 ∧ rung FloatKind.f64.format q = 0)) :
    fits (angC (cl .f64 y) (cl .f64 x)) = true := by
  refine fits_of_le (LeE.mono (E := 1042) ?_ (by decide))
  unfold angC
  refine angTurn_le _ _ _ (angOut_le (angT_nn ?_ 3))
  have fy' : rung FloatKind.f64.format p < FloatKind.f64.format.infRung := by simpa [isFin] using fy
  have fx' : rung FloatKind.f64.format q < FloatKind.f64.format.infRung := by simpa [isFin] using fx
  have sa : ∀ z : Nat, sgn FloatKind.f64.format (z % 2 ^ 63) = false := fun z => by
    show ((z % 2 ^ 63) / 2 ^ 63 % 2 == 1) = false
    rw [Nat.div_eq_of_lt (Nat.mod_lt _ (by decide))]; rfl
  have ra : ∀ z : Nat, rung FloatKind.f64.format (z % 2 ^ 63) = rung FloatKind.f64.format z := fun z => by
    show (z % 2 ^ 63) % 2 ^ 63 = z % 2 ^ 63
    rw [Nat.mod_mod]
  have k1 : cl .f64 (p % 2 ^ 63) = some (p % 2 ^ 63) := by rw [cl_abs, cl_idem hy]; rfl
  have k2 : cl .f64 (q % 2 ^ 63) = some (q % 2 ^ 63) := by rw [cl_abs, cl_idem hx]; rfl
  have ky : key FloatKind.f64.format (p % 2 ^ 63) = rung FloatKind.f64.format p := by unfold key sg; rw [sa, ra]; rfl
  have kx : key FloatKind.f64.format (q % 2 ^ 63) = rung FloatKind.f64.format q := by unfold key sg; rw [sa, ra]; rfl
  have hk := ford_key k1 k2
  have e : ∀ a b : Int, compare a b = if a < b then .lt else if a = b then .eq else .gt := fun a b => rfl
  rw [ky, kx, e] at hk
  rw [hy, hx]
  show NnE (if fgt .f64 (some (p % 2 ^ 63)) (some (q % 2 ^ 63)) = true then fop .quo .f64 (some (q % 2 ^ 63)) (some (p % 2 ^ 63)) else fop .quo .f64 (some (p % 2 ^ 63)) (some (q % 2 ^ 63))) 1023
  unfold fgt
  rw [hk]
  by_cases hlt : (rung FloatKind.f64.format p : Int) < rung FloatKind.f64.format q
  · simp only [hlt, if_true]
    rw [if_neg (by decide)]
    exact quo_one (sa _) (sa _) (by rw [ra, ra]; omega) (by rw [ra]; exact fx') (by rw [ra]; omega)
  · by_cases heq : (rung FloatKind.f64.format p : Int) = rung FloatKind.f64.format q
    · simp only [heq, if_true, if_false, Int.lt_irrefl]
      rw [if_neg (by decide)]
      exact quo_one (sa _) (sa _) (by rw [ra, ra]; omega) (by rw [ra]; exact fx') (by rw [ra]; omega)
    · simp only [hlt, heq, if_false]
      rw [if_pos (by decide)]
      exact quo_one (sa _) (sa _) (by rw [ra, ra]; omega) (by rw [ra]; exact fy') (by rw [ra]; omega)

/-- What the angle's function returns. -/
def angR (y x : Option Nat) : Option Nat :=
  if isFin .f32 y && isFin .f32 x then (if feq .f32 x (cl .f32 0) && feq .f32 y (cl .f32 0) then cl .f32 0 else narrow (angC (widen y) (widen x))) else none
theorem widen_zero : widen (cl .f32 0) = cl .f64 0 := by decide +kernel
theorem feq_widen (a : Nat) : feq .f64 (widen (cl .f32 a)) (cl .f64 0) = feq .f32 (cl .f32 a) (cl .f32 0) := by
  unfold feq
  rw [← widen_zero, ford_widen]
theorem ang_fits (y x : Nat) (fy : isFin .f32 (cl .f32 y) = true) (fx : isFin .f32 (cl .f32 x) = true) (h0 : ¬ (feq .f32 (cl .f32 x) (cl .f32 0) = true ∧ feq .f32 (cl .f32 y) (cl .f32 0) = true)) :
    fits (angC (widen (cl .f32 y)) (widen (cl .f32 x))) = true := by
  rw [← feq_widen, ← feq_widen] at h0
  rw [← isFin_widen] at fy fx
  rcases hy : cl .f32 y with _ | c
  · rw [hy] at fy; exact absurd fy (by decide)
  rcases hx : cl .f32 x with _ | d
  · rw [hx] at fx; exact absurd fx (by decide)
  obtain ⟨p, p1, p2, -⟩ := widen_cl hy
  obtain ⟨q, q1, q2, -⟩ := widen_cl hx
  rw [hy, p1] at fy
  rw [hx, q1] at fx
  rw [hy, hx, p1, q1] at h0
  rw [p1, q1]
  have := angC_fits p2 q2 fy fx (fun ⟨r1, r2⟩ => h0 ⟨by unfold feq; rw [ford_zero_eq q2 r2]; rfl, by unfold feq; rw [ford_zero_eq p2 r1]; rfl⟩)
  rwa [p2, q2] at this

end Go.Fl
