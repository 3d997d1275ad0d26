/- Complex numbers: what a call returns; conversions to and fro. -/
import Derived.Test.YthcgbpidnaimmaaGreatDoorRds
import Derived.Laws.Cover3
namespace Go.Fl
open Ieee Go.RowKit Go.Deep

/-- A call returns a complex number of two words of given classes. -/
def RetC (k : FloatKind) (r0 r1 : Option Nat) (w : World) (e : Ending) (w' : World) : Prop := ∃ a b n, e = .returned (.complex k a b) ∧ cl k a = r0 ∧ cl k b = r1 ∧ w' = w.drewN n
section
variable {P : Program} (w : World) {ops : Array Oper} {rest : List Oper} {o : Oper} {a : Act} {Q : Exit → Act → World → Prop}
theorem run_f2f (b : Nat) : ∃ r n, cl .f64 r = widen (cl .f32 b) ∧ (Conv.floatToFloat .f32 b .f64).run P w = .ok (.float .f64 r) (w.drewN n) := by
  unfold Conv.floatToFloat FloatKind.decode FloatKind.encode
  rw [if_neg (by decide)]
  by_cases hn : (FloatKind.f32.format.read b).isNaN = true
  · obtain ⟨s, t, hd⟩ := isNaN_eq _ hn
    rw [cl_nan hn, hd]
    exact ⟨_, 1, cut_nanConv .f64 b (w.tape w.drawn (.nanConv .f64 b)), by simp [forced_nanConv, Result.andThen, World.drew_is_drewN]⟩
  · have hn' : (FloatKind.f32.format.read b).isNaN = false := by simpa using hn
    rw [cl_num hn']
    refine ⟨FloatKind.f64.format.write (FloatKind.f32.format.read b), 0, ?_, ?_⟩
    · exact cl_num (read_write .f64 _ hn')
    · rw [World.drewN_zero]
      cases hd : FloatKind.f32.format.read b with
      | nan s t => rw [hd] at hn'; cases hn'
      | infinity s => rfl
      | number s m e =>
        have hfin := wide_finite hd
        simp only [hfin]; rfl
/-- 'complex128(x)' of a complex64. -/
theorem wpList_cwiden (s d : TypeId) (x : Operand) (hop : o.op = .convert s d x) (p q : Nat) (hx : a.eval x = .complex .f32 p q) (hd : P.underlying d = some (.complex .f64)) (hs : (P.underlying s).isSome = true)
    (hg : Region.wanted o (yielded ops a.tmps) = true)
    (hK : ∀ b c n, cl .f64 b = widen (cl .f32 p) → cl .f64 c = widen (cl .f32 q) → wpList P ops Q rest (a.put o.dst (.complex .f64 b c)) (w.drewN n)) : wpList P ops Q (o :: rest) a w := by
  refine wpList_wanted w hg fun K hK' => ?_
  obtain ⟨u, hs'⟩ := Option.isSome_iff_exists.1 hs
  obtain ⟨b, n, hb, hr⟩ := run_f2f (P := P) w p
  obtain ⟨c, n', hc, hr'⟩ := run_f2f (P := P) (w.drewN n) q
  have hconv : (convert s d (.complex .f32 p q)).run P w = .ok (.complex .f64 b c) (w.drewN (n + n')) := by
    have e1 : (convert s d (.complex .f32 p q)).run P w = (Conv.complexToComplex .f32 p q .f64).run P w := by
      cases u <;> simp [convert, run_underlying hs', run_underlying hd]
    rw [e1]
    unfold Conv.complexToComplex
    simp [hr, hr', Result.andThen]
  unfold Oper.wp
  simp [execOp, hop, hx, hconv, Result.andThen]
  exact hK' _ _ (hK b c _ hb hc)
theorem run_f2n (b : Nat) (hf : fits (cl .f64 b) = true) : ∃ r n, cl .f32 r = narrow (cl .f64 b) ∧ (Conv.floatToFloat .f64 b .f32).run P w = .ok (.float .f32 r) (w.drewN n) := by
  unfold Conv.floatToFloat FloatKind.decode FloatKind.encode
  rw [if_neg (by decide)]
  by_cases hn : (FloatKind.f64.format.read b).isNaN = true
  · obtain ⟨s, t, hd⟩ := isNaN_eq _ hn
    rw [cl_nan hn, hd]
    exact ⟨_, 1, cut_nanConv .f32 b (w.tape w.drawn (.nanConv .f32 b)), by simp [forced_nanConv, Result.andThen, World.drew_is_drewN]⟩
  · have hn' : (FloatKind.f64.format.read b).isNaN = false := by simpa using hn
    rw [cl_num hn'] at hf ⊢
    refine ⟨FloatKind.f32.format.write (FloatKind.f64.format.read b), 0, ?_, ?_⟩
    · exact cl_num (read_write .f32 _ hn')
    · rw [World.drewN_zero]
      unfold fits at hf
      cases hd : FloatKind.f64.format.read b with
      | nan s t => rw [hd] at hn'; cases hn'
      | infinity s => rfl
      | number s m e =>
        simp only [hd, Bool.not_eq_true'] at hf
        simp only [hf]; rfl

/-- 'complex64(x)' of a complex128 that fits. -/
theorem wpList_cnarrow (s d : TypeId) (x : Operand) (hop : o.op = .convert s d x) (p q : Nat) (hx : a.eval x = .complex .f64 p q) (hd : P.underlying d = some (.complex .f32)) (hs : (P.underlying s).isSome = true)
    (hg : Region.wanted o (yielded ops a.tmps) = true) (hf : fits (cl .f64 p) = true) (hf' : fits (cl .f64 q) = true)
    (hK : ∀ b c n, cl .f32 b = narrow (cl .f64 p) → cl .f32 c = narrow (cl .f64 q) → wpList P ops Q rest (a.put o.dst (.complex .f32 b c)) (w.drewN n)) : wpList P ops Q (o :: rest) a w := by
  refine wpList_wanted w hg fun K hK' => ?_
  obtain ⟨u, hs'⟩ := Option.isSome_iff_exists.1 hs
  obtain ⟨b, n, hb, hr⟩ := run_f2n (P := P) w p hf
  obtain ⟨c, n', hc, hr'⟩ := run_f2n (P := P) (w.drewN n) q hf'
  have hconv : (convert s d (.complex .f64 p q)).run P w = .ok (.complex .f32 b c) (w.drewN (n + n')) := by
    have e1 : (convert s d (.complex .f64 p q)).run P w = (Conv.complexToComplex .f64 p q .f32).run P w := by
      cases u <;> simp [convert, run_underlying hs', run_underlying hd]
    rw [e1]
    unfold Conv.complexToComplex
    simp [hr, hr', Result.andThen]
  unfold Oper.wp
  simp [execOp, hop, hx, hconv, Result.andThen]
  exact hK' _ _ (hK b c _ hb hc)
theorem upon_cwiden {K : Act → World → Prop} (s d : TypeId) (p q : Nat) (hd : P.underlying d = some (.complex .f64)) (hs : (P.underlying s).isSome = true)
    (h : ∀ b c n, cl .f64 b = widen (cl .f32 p) → cl .f64 c = widen (cl .f32 q) → K (a.put o.dst (.complex .f64 b c)) (w.drewN n)) : Oper.upon P o a K Q (((convert s d (.complex .f32 p q)).run P w).andThen fun v w' => .ok (.value v) w') := by
  obtain ⟨u, hs'⟩ := Option.isSome_iff_exists.1 hs
  obtain ⟨b, n, hb, hr⟩ := run_f2f (P := P) w p
  obtain ⟨c, n', hc, hr'⟩ := run_f2f (P := P) (w.drewN n) q
  have hconv : (convert s d (.complex .f32 p q)).run P w = .ok (.complex .f64 b c) (w.drewN (n + n')) := by
    have e1 : (convert s d (.complex .f32 p q)).run P w = (Conv.complexToComplex .f32 p q .f64).run P w := by
      cases u <;> simp [convert, run_underlying hs', run_underlying hd]
    rw [e1]
    unfold Conv.complexToComplex
    simp [hr, hr', Result.andThen]
  rw [hconv]
  exact h b c _ hb hc
end
theorem mkC_all : ∀ j : Fin 256, (fits (cl .f64 (floatOfInt .f64 (1 + (j.1 : Int)))) && (narrow (cl .f64 (floatOfInt .f64 (1 + (j.1 : Int)))) == cl .f32 (mkF j.1))) = true := by decide +kernel
theorem mkC {j : Nat} (h : j < 256) : fits (cl .f64 (floatOfInt .f64 (1 + (j : Int)))) = true ∧ narrow (cl .f64 (floatOfInt .f64 (1 + (j : Int)))) = some (mkF j) := by
  have := mkC_all ⟨j, h⟩
  rw [Bool.and_eq_true, beq_iff_eq] at this
  exact ⟨this.1, this.2.trans (mkF_some h)⟩
theorem mkOne : fits (cl .f64 4607182418800017408) = true ∧ narrow (cl .f64 4607182418800017408) = some 1065353216 := by decide +kernel
/-! Pairs of numbers. -/
def okC (p : ByteArray) : Bool := p.size == 16 && (okH (p.extract 0 8) && okH (p.extract 8 p.size))
def cH (p : ByteArray) : Value := .complex .f32 (valH (p.extract 0 8)) (valH (p.extract 8 p.size))
def cR (s : ByteArray) (j : Nat) : Nat := if isNone s then 0 else ((pieces s).map fun p => valH (p.extract 0 8)).getD j 0
def cI (s : ByteArray) (j : Nat) : Nat := if isNone s then 0 else ((pieces s).map fun p => valH (p.extract 8 p.size)).getD j 0
theorem gV_cH (s : ByteArray) (j : Nat) (h : j < (gV cH s).length) : (gV cH s)[j]? = some (.complex .f32 (cR s j) (cI s j)) := by
  cases hn : isNone s
  · rw [gV_len cH s hn] at h
    unfold gV cR cI
    rw [hn]
    simp [List.getElem?_map, List.getElem?_eq_getElem h, List.getD, cH]
  · rw [gV_none hn] at h
    simp at h
theorem okC_size {p : ByteArray} (h : p.size ≠ 16) : okC p = false := by
  unfold okC
  rw [beq_eq_false_iff_ne.2 h]; rfl
theorem okC_eq {p : ByteArray} (h : p.size = 16) : okC p = (okH (p.extract 0 8) && okH (p.extract 8 p.size)) := by
  unfold okC
  rw [h]; rfl
end Go.Fl
