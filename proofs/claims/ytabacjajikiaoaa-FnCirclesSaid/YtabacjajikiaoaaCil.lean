/- What the law of circles asks, case by case. -/
import Derived.Test.YtabacjajikiaoaaCin
namespace Go.Fl
open Ieee Go.RowKit Go.Deep

/-! What the law asks, case by case. -/
theorem ang {k : Nat} (hk : k < 64) : angR (some (IW.getD k 0)) (some (RW.getD k 0)) = some (AW.getD k 0) := by
  have h := List.all_eq_true.1 ang_all k (List.mem_range.2 hk)
  unfold angOk at h
  simpa using h
theorem pow_near {k : Nat} (hk : k < 64) : fits (powC (widen (some (RW.getD k 0))) (widen (some (IW.getD k 0)))) = true ∧ fgt .f64 (gapC (widen (narrow (powC (widen (some (RW.getD k 0))) (widen (some (IW.getD k 0)))))) (cl .f64 4607182418800017408)) (cl .f64 4547007122018943789) = false := by
  have h := List.all_eq_true.1 pow_all k (List.mem_range.2 hk)
  unfold powOk at h
  rw [Bool.and_eq_true, Bool.not_eq_true'] at h
  exact h
theorem turn {n x : Nat} (hn : n < 256) (hx : cl .f64 x = fop .add .f64 (turnC n) (cl .f64 4666723447345250304)) : (FloatKind.f64.format.read x).toInt .zero = some (wholeI n) ∧ 0 ≤ wholeI n ∧ wholeI n ≤ 100000 ∧ fgt .f64 (gapC (turnC n) (i2f (wholeI n - 10000))) (cl .f64 4562254508917369340) = false ∧ (wholeI n - 10000).tmod 64 = 0 := by
  have h := List.all_eq_true.1 turn_all n (List.mem_range.2 hn)
  unfold turnOk at h
  rw [← hx] at h
  rcases hc : cl .f64 x with _ | y
  · rw [hc] at h; cases h
  rw [hc] at h
  obtain ⟨rfl, -⟩ := cl_some hc
  simp only [Bool.and_eq_true, decide_eq_true_eq, beq_iff_eq, Bool.not_eq_true'] at h
  obtain ⟨h1, h2, h3, h4, h5⟩ := h
  exact ⟨h1, h2, h3, h4, Int.tmod_eq_zero_of_dvd (Int.dvd_of_emod_eq_zero h5)⟩
theorem six_re {k : Nat} (hk : k < 64) (h16 : k % 16 = 0) : feq .f64 (gapC (widen (some (RW.getD k 0))) (cl .f64 0)) (cl .f64 0) = true ∨ feq .f64 (gapC (widen (some (RW.getD k 0))) (cl .f64 0)) (cl .f64 4607182418800017408) = true := by
  have h := List.all_eq_true.1 six_all k (List.mem_range.2 hk)
  unfold sixOk at h
  rw [Bool.or_eq_true, Bool.or_eq_true, decide_eq_true_eq] at h
  rcases h with h | h
  · exact absurd h16 h
  · exact h
end Go.Fl
