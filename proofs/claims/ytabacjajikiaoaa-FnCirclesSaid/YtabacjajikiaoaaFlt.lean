/- Words of floating-point numbers up to the choice of a NaN: what each operation of the model gives, as a function of classes ('none': a NaN; 'some b': the word b). Of formats single and double alone. -/
import Derived.Laws.FloatArith
import Derived.Laws.ComplexArith
namespace Go.Fl
open Ieee

/-- The class of a word: all NaNs are one. -/
def cl (k : FloatKind) (b : Nat) : Option Nat := if (k.format.read b).isNaN then none else some b

/-- '+', '-', '*', '/' on classes. -/
def fop (op : BinOp) (k : FloatKind) (x y : Option Nat) : Option Nat := x.bind fun x => y.bind fun y => floatBits op k x y

/-- How two classes stand to each other. -/
def ford (k : FloatKind) (x y : Option Nat) : Option Ordering := x.bind fun x => y.bind fun y => k.format.order x y

/-- The square root. -/
def fsqrt (x : Option Nat) : Option Nat := x.bind fun x => FloatKind.f64.format.sqrt x

/-- 'float64(x)' of a float32. -/
def widen (x : Option Nat) : Option Nat := x.bind fun b => some (FloatKind.f64.format.write (FloatKind.f32.format.read b))

/-- 'float32(x)' of a float64. -/
def narrow (x : Option Nat) : Option Nat := x.bind fun b => some (FloatKind.f32.format.write (FloatKind.f64.format.read b))

/-- 'float32(x)' is fixed by the language: no finite number becomes an infinity. -/
def fits (x : Option Nat) : Bool :=
  match x with
  | none => true
  | some b =>
    match FloatKind.f64.format.read b with
    | .number s m e => !(FloatKind.f32.format.read (FloatKind.f32.format.write (.number s m e))).isInfinity
    | _ => true

theorem cl_nan {k : FloatKind} {b : Nat} (h : (k.format.read b).isNaN = true) : cl k b = none := by simp [cl, h]
theorem cl_num {k : FloatKind} {b : Nat} (h : (k.format.read b).isNaN = false) : cl k b = some b := by simp [cl, h]
theorem cl_some {k : FloatKind} {b r : Nat} (h : cl k b = some r) : b = r ∧ (k.format.read b).isNaN = false := by
  unfold cl at h; split at h
  · cases h
  · rename_i hn; exact ⟨Option.some.inj h, by simpa using hn⟩
theorem cl_none {k : FloatKind} {b : Nat} (h : cl k b = none) : (k.format.read b).isNaN = true := by
  unfold cl at h; split at h
  · assumption
  · cases h

theorem isNaN_eq (d : Datum) (h : d.isNaN = true) : ∃ s t, d = .nan s t := by
  cases d <;> simp [Datum.isNaN] at h; exact ⟨_, _, rfl⟩

/-- The bounds of the two formats. -/
theorem fmt_pos (k : FloatKind) : 0 < k.format.binade ∧ k.format.infRung < k.format.signWeight ∧ k.format.binade ≤ k.format.infRung := by
  cases k <;> decide

theorem read_word (k : FloatKind) (s : Bool) (r : Nat) (h : r ≤ k.format.infRung) : (k.format.read (k.format.word s r)).isNaN = false := by
  have hp := fmt_pos k
  have hsw : 0 < k.format.signWeight := by omega
  have hr : k.format.word s r % k.format.signWeight = r := by
    unfold Format.word; split
    · rw [Nat.add_mod_left]; exact Nat.mod_eq_of_lt (by omega)
    · exact Nat.mod_eq_of_lt (by omega)
  unfold Format.read
  simp only [hr]
  split
  · rfl
  · split
    · rfl
    · rw [if_pos (by omega)]; rfl

theorem read_nearest (k : FloatKind) (s : Bool) (m : Nat) (p : Int) : (k.format.read (k.format.nearest s m p)).isNaN = false := by
  unfold Format.nearest
  split
  · exact read_word k s 0 (Nat.zero_le _)
  · exact read_word k s _ (Nat.min_le_right ..)

theorem read_write (k : FloatKind) (d : Datum) (h : d.isNaN = false) : (k.format.read (k.format.write d)).isNaN = false := by
  cases d with
  | number s m p => exact read_nearest k s m p
  | infinity s => exact read_word k s _ (Nat.le_refl _)
  | nan s t => cases h

theorem sum_nan {x y d : Datum} (h : x.sum y = some d) : d.isNaN = false := by
  cases x <;> cases y <;> simp only [Datum.sum] at h <;> first | cases h; rfl | (split at h <;> cases h; rfl) | cases h
theorem product_nan {x y d : Datum} (h : x.product y = some d) : d.isNaN = false := by
  cases x <;> cases y <;> simp only [Datum.product] at h <;> first | cases h; rfl | (split at h <;> cases h; rfl) | cases h
theorem quotient_nan {n : Nat} {x y d : Datum} (h : x.quotient n y = some d) : d.isNaN = false := by
  cases x <;> cases y <;> simp only [Datum.quotient] at h <;> (repeat' split at h) <;> first | (cases h; done) | (injection h with h; subst h; rfl)
theorem root_nan {n : Nat} {x d : Datum} (h : x.root n = some d) : d.isNaN = false := by
  cases x <;> simp only [Datum.root] at h
  · split at h
    · cases h; rfl
    · split at h <;> cases h; rfl
  · split at h <;> cases h; rfl
  · cases h

theorem floatBits_num {op : BinOp} {k : FloatKind} {x y r : Nat} (h : floatBits op k x y = some r) : (k.format.read r).isNaN = false := by
  unfold floatBits at h
  split at h
  · obtain ⟨d, hd, rfl⟩ := Option.map_eq_some_iff.1 h; exact read_write k d (sum_nan hd)
  · obtain ⟨d, hd, rfl⟩ := Option.map_eq_some_iff.1 h; exact read_write k d (sum_nan hd)
  · obtain ⟨d, hd, rfl⟩ := Option.map_eq_some_iff.1 h; exact read_write k d (product_nan hd)
  · obtain ⟨d, hd, rfl⟩ := Option.map_eq_some_iff.1 h; exact read_write k d (quotient_nan hd)
  · cases h

theorem sum_of_nan_left {x y : Datum} (h : x.isNaN = true) : x.sum y = none := by
  cases x <;> simp [Datum.isNaN] at h; cases y <;> rfl
theorem sum_of_nan_right {x y : Datum} (h : y.isNaN = true) : x.sum y = none := by
  cases y <;> simp [Datum.isNaN] at h; cases x <;> rfl
theorem product_of_nan_left {x y : Datum} (h : x.isNaN = true) : x.product y = none := by
  cases x <;> simp [Datum.isNaN] at h; cases y <;> rfl
theorem product_of_nan_right {x y : Datum} (h : y.isNaN = true) : x.product y = none := by
  cases y <;> simp [Datum.isNaN] at h; cases x <;> rfl
theorem quotient_of_nan_left {n : Nat} {x y : Datum} (h : x.isNaN = true) : x.quotient n y = none := by
  cases x <;> simp [Datum.isNaN] at h; cases y <;> rfl
theorem quotient_of_nan_right {n : Nat} {x y : Datum} (h : y.isNaN = true) : x.quotient n y = none := by
  cases y <;> simp [Datum.isNaN] at h; cases x <;> rfl
theorem opposite_nan (x : Datum) : x.opposite.isNaN = x.isNaN := by cases x <;> rfl
theorem order_of_nan_left {x y : Datum} (h : x.isNaN = true) : x.order y = none := by
  cases x <;> simp [Datum.isNaN] at h; cases y <;> rfl
theorem order_of_nan_right {x y : Datum} (h : y.isNaN = true) : x.order y = none := by
  cases y <;> simp [Datum.isNaN] at h; cases x <;> rfl

theorem floatBits_nan_left {op : BinOp} {k : FloatKind} {x y : Nat} (h : (k.format.read x).isNaN = true) : floatBits op k x y = none := by
  unfold floatBits; split <;> simp [Format.add, Format.sub, Format.mul, Format.div, sum_of_nan_left h, product_of_nan_left h, quotient_of_nan_left h]
theorem floatBits_nan_right {op : BinOp} {k : FloatKind} {x y : Nat} (h : (k.format.read y).isNaN = true) : floatBits op k x y = none := by
  unfold floatBits; split <;> simp [Format.add, Format.sub, Format.mul, Format.div, sum_of_nan_right h, product_of_nan_right h, quotient_of_nan_right h, sum_of_nan_right (opposite_nan _ ▸ h)]

/-- An operation on classes is the operation on words. -/
theorem fop_cl (op : BinOp) (k : FloatKind) (x y : Nat) : fop op k (cl k x) (cl k y) = floatBits op k x y := by
  unfold fop cl
  by_cases hx : (k.format.read x).isNaN
  · simp [hx, floatBits_nan_left hx]
  · by_cases hy : (k.format.read y).isNaN
    · simp [hx, hy, floatBits_nan_right hy]
    · simp [hx, hy]

theorem ford_cl (k : FloatKind) (x y : Nat) : ford k (cl k x) (cl k y) = k.format.order x y := by
  unfold ford cl Format.order
  by_cases hx : (k.format.read x).isNaN
  · simp [hx, order_of_nan_left hx]
  · by_cases hy : (k.format.read y).isNaN
    · simp [hx, hy, order_of_nan_right hy]
    · simp [hx, hy]

/-- The words that the tape gives for a NaN are NaNs. -/
theorem read_nanword (k : FloatKind) (s t : Nat) (ht : t < k.format.binade - 1) : (k.format.read (s * k.format.signWeight + k.format.infRung + 1 + t)).isNaN = true := by
  have hp := fmt_pos k
  have hw : k.format.infRung + k.format.binade = k.format.signWeight := k.format.infRung_add_binade
  have hr : (s * k.format.signWeight + k.format.infRung + 1 + t) % k.format.signWeight = k.format.infRung + 1 + t := by
    rw [show s * k.format.signWeight + k.format.infRung + 1 + t = (k.format.infRung + 1 + t) + s * k.format.signWeight by omega, Nat.add_mul_mod_self_right]
    exact Nat.mod_eq_of_lt (by omega)
  unfold Format.read
  simp only [hr]
  rw [if_neg (by omega), if_neg (by omega), if_neg (by omega)]; rfl

theorem cut_nanBits (k : FloatKind) (x y t : Nat) : cl k ((Question.nanBits k x y).cut t) = none := by
  refine cl_nan ?_
  cases k
  · have := read_nanword .f32 (t % 2) ((t / 2) % (2 ^ 23 - 1)) (Nat.mod_lt _ (by decide))
    exact this
  · have := read_nanword .f64 (t % 2) ((t / 2) % (2 ^ 52 - 1)) (Nat.mod_lt _ (by decide))
    exact this
theorem cut_nanConv (k : FloatKind) (x t : Nat) : cl k ((Question.nanConv k x).cut t) = none := by
  refine cl_nan ?_
  cases k
  · have := read_nanword .f32 (t % 2) ((t / 2) % (2 ^ 23 - 1)) (Nat.mod_lt _ (by decide))
    exact this
  · have := read_nanword .f64 (t % 2) ((t / 2) % (2 ^ 52 - 1)) (Nat.mod_lt _ (by decide))
    exact this

end Go.Fl
