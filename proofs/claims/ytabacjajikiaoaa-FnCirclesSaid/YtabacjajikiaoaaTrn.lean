/- Whole parts of numbers: conversion to an integer and back, 'math.Trunc' and 'math.Floor'; what is left behind the point is at most 1. -/
import Derived.Test.YtabacjajikiaoaaLog
namespace Go.Fl
open Ieee

theorem cut_zero (s : Bool) (n d : Nat) : Toward.zero.cut s n d = n / 2 ^ d := by
  unfold Toward.cut
  simp only [Bool.toNat_false, Nat.add_zero, Nat.one_shiftLeft]
  rcases Nat.le_total d (n.log2 + 2) with h | h
  · rw [Nat.min_eq_left h]
  · rw [Nat.min_eq_right h]
    have h1 : n < 2 ^ (n.log2 + 1) := Nat.lt_log2_self
    have h2 : 2 ^ (n.log2 + 1) ≤ 2 ^ (n.log2 + 2) := Nat.pow_le_pow_right (by decide) (by omega)
    have h3 : 2 ^ (n.log2 + 2) ≤ 2 ^ d := Nat.pow_le_pow_right (by decide) h
    rw [Nat.div_eq_of_lt (by omega), Nat.div_eq_of_lt (by omega)]
theorem cut_down (s : Bool) (n d : Nat) : Toward.down.cut s n d ≤ n / 2 ^ d + 1 := by
  have h0 := cut_zero s n d
  unfold Toward.cut at h0 ⊢
  simp only [Bool.toNat_false, Nat.add_zero, Nat.one_shiftLeft] at h0 ⊢
  rw [h0]
  exact Nat.add_le_add_left (Bool.toNat_le _) _

/-- The whole part of 'm * 2 ^ p'. -/
def whole (m : Nat) (p : Int) : Nat := (m * 2 ^ p.toNat) / 2 ^ (-p).toNat
theorem whole_le {m : Nat} {p : Int} {e : Nat} (h : Sz m p e) : whole m p ≤ 2 ^ e := by
  unfold whole
  rcases h with rfl | ⟨h1, h2⟩
  · simp
  · rcases Int.le_total 0 p with hp | hp
    · rw [show (-p).toNat = 0 by omega, Nat.pow_zero, Nat.div_one]
      refine Nat.le_trans (Nat.mul_le_mul_right _ h2) ?_
      rw [← Nat.pow_add]
      exact Nat.pow_le_pow_right (by decide) (by omega)
    · rw [show p.toNat = 0 by omega, Nat.pow_zero, Nat.mul_one]
      refine Nat.div_le_of_le_mul ?_
      rw [← Nat.pow_add]
      exact Nat.le_trans h2 (Nat.pow_le_pow_right (by decide) (by omega))
/-- Scaled by 2 ^ L, the number lies between its whole part and the next one. -/
theorem whole_scaled {m L : Nat} {p : Int} (hp : -(L : Int) ≤ p) : whole m p * 2 ^ L ≤ m * 2 ^ (p + L).toNat ∧ m * 2 ^ (p + L).toNat < (whole m p + 1) * 2 ^ L := by
  unfold whole
  rcases Int.le_total 0 p with h | h
  · rw [show (-p).toNat = 0 by omega, Nat.pow_zero, Nat.div_one, Nat.mul_assoc, ← Nat.pow_add, show (p + L).toNat = p.toNat + L by omega]
    refine ⟨Nat.le_refl _, ?_⟩
    rw [Nat.add_mul, Nat.one_mul, Nat.mul_assoc, ← Nat.pow_add]
    exact Nat.lt_add_of_pos_right (Nat.two_pow_pos _)
  · rw [show p.toNat = 0 by omega, Nat.pow_zero, Nat.mul_one]
    have e : 2 ^ L = 2 ^ (-p).toNat * 2 ^ (p + L).toNat := by rw [← Nat.pow_add]; congr 1; omega
    have h1 := Nat.div_mul_le_self m (2 ^ (-p).toNat)
    have h2 : m < (m / 2 ^ (-p).toNat + 1) * 2 ^ (-p).toNat := by
      have := Nat.lt_div_mul_add (a := m) (Nat.two_pow_pos (-p).toNat)
      rw [Nat.add_mul, Nat.one_mul]; exact this
    rw [e, ← Nat.mul_assoc, ← Nat.mul_assoc]
    exact ⟨Nat.mul_le_mul_right _ h1, Nat.mul_lt_mul_of_pos_right h2 (Nat.two_pow_pos _)⟩

/-- What 'int64(y)' is, for the word b of y. -/
def toI (b : Nat) : Int := ((FloatKind.f64.format.read b).toInt .zero).getD 0
theorem toInt_num (s : Bool) (m : Nat) (p : Int) : (Datum.number s m p).toInt .zero = some (signed s (whole m p) 0) := by
  unfold Datum.toInt Datum.integral
  simp only [cut_zero, Nat.shiftLeft_eq]
  rfl
theorem signed_zero (s : Bool) (m : Nat) : signed s m 0 = if s then -(m : Int) else m := by
  unfold signed; rw [Nat.shiftLeft_zero]
theorem natAbs_sg (s : Bool) (m : Nat) : (signed s m 0).natAbs = m := by
  rw [signed_zero]; cases s <;> simp
theorem toI_le {b E : Nat} (hE : 1023 ≤ E) (hE2 : E < 2047) (h : rung FloatKind.f64.format b ≤ E * 2 ^ 52) :
    (FloatKind.f64.format.read b).toInt .zero = some (toI b) ∧ (toI b).natAbs ≤ 2 ^ (E - 1023) := by
  obtain ⟨m, p, e, hs⟩ := LeE.read (by omega) hE2 h
  unfold toI
  rw [e, toInt_num]
  refine ⟨rfl, ?_⟩
  show (signed _ (whole m p) 0).natAbs ≤ _
  rw [natAbs_sg]
  refine whole_le (e := E - 1023) ?_
  rwa [show ((E - 1023 : Nat) : Int) = (E : Int) - 1023 by omega]

/-- A number is its class and nothing else. -/
def fint (way : Toward) (c : Option Nat) : Option Nat := c.map fun b => FloatKind.f64.format.write ((FloatKind.f64.format.read b).integral way)
theorem integral_down {b E : Nat} (hE : 1024 ≤ E) (hE2 : E + 1 < 2047) (h : rung FloatKind.f64.format b ≤ E * 2 ^ 52) : LeE (fint .down (some b)) (E + 1) := by
  obtain ⟨m, p, e, hs⟩ := LeE.read (by omega) (by omega) h
  show LeE (some (FloatKind.f64.format.write ((FloatKind.f64.format.read b).integral .down))) (E + 1)
  rw [e]
  refine LeE.write (by omega) hE2 (.inr ⟨by omega, ?_⟩)
  have h1 := cut_down (sgn FloatKind.f64.format b) (m <<< p.toNat) (-p).toNat
  have h2 : whole m p ≤ 2 ^ (E - 1023) := whole_le (e := E - 1023) (by rwa [show ((E - 1023 : Nat) : Int) = (E : Int) - 1023 by omega])
  rw [Nat.shiftLeft_eq] at h1
  rw [Nat.shiftLeft_eq]
  have h3 : (((E + 1 : Nat) : Int) - 1023 - 0).toNat = (E - 1023) + 1 := by omega
  rw [h3, Nat.pow_succ]
  have h4 : 1 ≤ 2 ^ (E - 1023) := Nat.one_le_two_pow
  unfold whole at h2
  exact Nat.le_trans h1 (by omega)

/-! The walk's laws. -/
section
variable {P : Program} (w : World) {ops : Array Oper} {rest : List Oper} {o : Oper} {a : Act} {Q : Exit → Act → World → Prop}
theorem run_f2i (src dst : TypeId) (b : Nat) (n : Int) (hs : (P.underlying src).isSome = true) (hd : P.underlying dst = some (.int .i64)) (hn : (FloatKind.f64.format.read b).toInt .zero = some n) (hr : -9223372036854775808 ≤ n ∧ n ≤ 9223372036854775807) :
    (convert src dst (.float .f64 b)).run P w = .ok (.int .i64 n) w := by
  obtain ⟨u, hs'⟩ := Option.isSome_iff_exists.1 hs
  have hconv : (convert src dst (.float .f64 b)).run P w = (Conv.floatToInt .f64 b .i64).run P w := by
    cases u <;> simp [convert, run_underlying hs', run_underlying hd]
  rw [hconv]
  unfold Conv.floatToInt FloatKind.decode
  rw [hn]
  have h1 : IntKind.i64.min ≤ n ∧ n ≤ IntKind.i64.max := by
    show (-2 ^ 63 : Int) ≤ n ∧ n ≤ 2 ^ 63 - 1
    omega
  simp only [h1, and_self, if_true]
  rfl
/-- 'int64(x)' of a float64 in range. -/
theorem wpList_f2i (s d : TypeId) (x : Operand) (hop : o.op = .convert s d x) (p : Nat) (hx : a.eval x = .float .f64 p) (hd : P.underlying d = some (.int .i64)) (hs : (P.underlying s).isSome = true)
    (hg : Region.wanted o (yielded ops a.tmps) = true) (n : Int) (hn : (FloatKind.f64.format.read p).toInt .zero = some n) (hr : -9223372036854775808 ≤ n ∧ n ≤ 9223372036854775807)
    (hK : wpList P ops Q rest (a.put o.dst (.int .i64 n)) w) : wpList P ops Q (o :: rest) a w := by
  refine wpList_wanted w hg fun K hK' => ?_
  have hr' := run_f2i (P := P) w s d p n hs hd hn hr
  unfold Oper.wp
  simp [execOp, hop, hx, hr', Result.andThen]
  exact hK' _ _ hK
theorem run_integral (name : String) (way : Toward) (b : Nat) (c : Nat) (h : cl .f64 b = some c) : (Extern.MathFloor.toIntegral name way #[.float .f64 b]).run P w = .ok (.float .f64 (FloatKind.f64.format.write ((FloatKind.f64.format.read b).integral way))) w := by
  obtain ⟨rfl, hn⟩ := cl_some h
  have e0 : Extern.MathFloor.toIntegral name way #[.float .f64 b] = (match FloatKind.f64.format.read b with
    | .nan s t =>
      if FloatKind.f64.format.quiet t = t then pure (.float .f64 b) else do
      let kept ← choose (.extern "math.Floor,Ceil,Trunc,RoundToEven.signallingNaN kept" 2)
      pure (.float .f64 (if kept == 1 then b else FloatKind.f64.encode (.nan s (FloatKind.f64.format.quiet t))))
    | d => pure (.float .f64 (FloatKind.f64.format.write (d.integral way)))) := rfl
  rw [e0]
  cases hd : FloatKind.f64.format.read b with
  | nan s t => rw [hd] at hn; cases hn
  | infinity s => rfl
  | number s m e => rfl
end

/-! Tenths of decibels. -/
/-- The integer 'int64(math.Floor(y))'. -/
def floI (y : Option Nat) : Int := match fint .down y with
  | some b => toI b
  | none => 0
theorem floI_some {y : Option Nat} {c : Nat} (h : fint .down y = some c) : floI y = toI c := by
  unfold floI
  rw [h]
theorem fint_some (way : Toward) (x : Nat) : fint way (some x) = some (FloatKind.f64.format.write ((FloatKind.f64.format.read x).integral way)) := rfl
theorem small50 {n : Int} (h : n.natAbs ≤ 2 ^ 50) : -9223372036854775808 ≤ n ∧ n ≤ 9223372036854775807 := by omega
theorem floI_word {y : Option Nat} {x : Nat} (h : LeE y 1072) (hx : cl .f64 x = y) :
    (FloatKind.f64.format.read (FloatKind.f64.format.write ((FloatKind.f64.format.read x).integral .down))).toInt .zero = some (floI y) ∧ -9223372036854775808 ≤ floI y ∧ floI y ≤ 9223372036854775807 := by
  obtain ⟨b, rfl, hr⟩ := h
  obtain ⟨rfl, -⟩ := cl_some hx
  obtain ⟨c, hc, hr2⟩ := integral_down (b := x) (E := 1072) (by decide) (by decide) hr
  obtain ⟨h1, h2⟩ := toI_le (b := c) (E := 1073) (by decide) (by decide) hr2
  rw [floI_some hc]
  rw [fint_some] at hc
  injection hc with hc
  rw [hc]
  exact ⟨h1, small50 h2⟩
def tenY (d : Nat) : Option Nat := fop .add .f64 (fop .mul .f64 (logC d) (cl .f64 4631308968768463603)) (cl .f64 4602678819172646912)
theorem ten_le {d : Nat} (h : LogOk d) : LeE (tenY d) 1072 := by
  have k1 : LeE (cl .f64 4631308968768463603) 1029 := leB_le (by decide +kernel)
  have k2 : LeE (cl .f64 4602678819172646912) 1071 := leB_le (by decide +kernel)
  have h1 : LeE (fop .mul .f64 (logC d) (cl .f64 4631308968768463603)) 1071 := LeE.mul (logC_le h) k1 (by decide) (by decide) (by decide) (by decide) (by decide) (by decide) (by decide)
  exact LeE.add h1 k2 (by decide) (by decide) (by decide)
def tenI (d : Nat) : Int := floI (tenY d)
/-- What 'TenthsOf' returns. -/
def tenR (x : Option Nat) : Int × Bool :=
  if isFin .f32 x && !(flt .f32 x (cl .f32 0) || feq .f32 x (cl .f32 0)) then (match widen x with
    | some d => (tenI d, true)
    | none => (0, false)) else (0, false)
theorem tenR_no {x : Option Nat} (h : isFin .f32 x = false ∨ (flt .f32 x (cl .f32 0) || feq .f32 x (cl .f32 0)) = true) : tenR x = (0, false) := by
  unfold tenR
  rcases h with h | h
  · simp [h]
  · simp only [h]; simp
theorem tenR_yes {a : Nat} (hf : isFin .f32 (cl .f32 a) = true) (h : (flt .f32 (cl .f32 a) (cl .f32 0) || feq .f32 (cl .f32 a) (cl .f32 0)) = false) :
    ∃ d, widen (cl .f32 a) = some d ∧ LogOk d ∧ tenR (cl .f32 a) = (tenI d, true) := by
  rcases hc : cl .f32 a with _ | c
  · rw [hc] at hf; exact absurd hf (by decide)
  rw [hc] at hf h
  obtain ⟨h1, h2⟩ : flt .f32 (some c) (cl .f32 0) = false ∧ feq .f32 (some c) (cl .f32 0) = false := by simpa using h
  obtain ⟨d, hd, hL⟩ := log_fin hc h1 h2 hf
  refine ⟨d, hd, hL, ?_⟩
  unfold tenR
  simp [hf, h1, h2, hd]
end Go.Fl
