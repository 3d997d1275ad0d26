/- The walk's laws for floating-point operations: each gives some word of the class that the operation has, and leaves a world that differs by draws alone. -/
import Derived.Test.YtabacjajikiaoaaBnd
import Derived.WalkKit
import Derived.WalkLawsBesides
import Derived.Deep.Draws
namespace Go.Fl
open Ieee

def isArith : BinOp → Bool
  | .add | .sub | .mul | .quo => true
  | _ => false

section
variable {P : Program} (w : World)

theorem forced_nanBits (k : FloatKind) (x y : Nat) : (Question.nanBits k x y).forced = false := rfl
theorem forced_nanConv (k : FloatKind) (x : Nat) : (Question.nanConv k x).forced = false := rfl

theorem run_farith (op : BinOp) (hop : isArith op = true) (t : TypeId) (k : FloatKind) (x y : Nat) :
    ∃ b n, cl k b = fop op k (cl k x) (cl k y) ∧ (binOp op t (.float k x) (.float k y)).run P w = .ok (.float k b) (w.drewN n) := by
  rw [fop_cl]
  cases h : floatBits op k x y with
  | some r => exact ⟨r, 0, cl_num (floatBits_num h), run_float_arith w op t k x y r h⟩
  | none =>
    refine ⟨_, 1, cut_nanBits k x y (w.tape w.drawn (.nanBits k x y)), ?_⟩
    unfold floatBits at h
    cases op <;> simp [isArith] at hop <;> simp only at h <;> simp [binOp, Op.floatArith, h, forced_nanBits, Result.andThen, World.drew_is_drewN]

theorem run_widen (src dst : TypeId) (b : Nat) (hs : (P.underlying src).isSome = true) (hd : P.underlying dst = some (.float .f64)) :
    ∃ r n, cl .f64 r = widen (cl .f32 b) ∧ (convert src dst (.float .f32 b)).run P w = .ok (.float .f64 r) (w.drewN n) := by
  obtain ⟨u, hs'⟩ := Option.isSome_iff_exists.1 hs
  have hconv : (convert src dst (.float .f32 b)).run P w = (Conv.floatToFloat .f32 b .f64).run P w := by
    cases u <;> simp [convert, run_underlying hs', run_underlying hd]
  rw [hconv]
  unfold Conv.floatToFloat FloatKind.decode FloatKind.encode
  rw [if_neg (by decide)]
  by_cases hn : (FloatKind.f32.format.read b).isNaN = true
  · obtain ⟨s, t, hd⟩ := isNaN_eq _ hn
    rw [cl_nan hn, hd]
    exact ⟨_, 1, cut_nanConv .f64 b (w.tape w.drawn (.nanConv .f64 b)), by simp [forced_nanConv, Result.andThen, World.drew_is_drewN]⟩
  · have hn' : (FloatKind.f32.format.read b).isNaN = false := by simpa using hn
    rw [cl_num hn']
    refine ⟨FloatKind.f64.format.write (FloatKind.f32.format.read b), 0, ?_, ?_⟩
    · exact cl_num (read_write .f64 _ hn')
    · rw [World.drewN_zero]
      cases hd : FloatKind.f32.format.read b with
      | nan s t => rw [hd] at hn'; cases hn'
      | infinity s => rfl
      | number s m e =>
        have hfin := wide_finite hd
        simp only [hfin]; rfl

theorem run_narrow (src dst : TypeId) (b : Nat) (hs : (P.underlying src).isSome = true) (hd : P.underlying dst = some (.float .f32)) (hf : fits (cl .f64 b) = true) :
    ∃ r n, cl .f32 r = narrow (cl .f64 b) ∧ (convert src dst (.float .f64 b)).run P w = .ok (.float .f32 r) (w.drewN n) := by
  obtain ⟨u, hs'⟩ := Option.isSome_iff_exists.1 hs
  have hconv : (convert src dst (.float .f64 b)).run P w = (Conv.floatToFloat .f64 b .f32).run P w := by
    cases u <;> simp [convert, run_underlying hs', run_underlying hd]
  rw [hconv]
  unfold Conv.floatToFloat FloatKind.decode FloatKind.encode
  rw [if_neg (by decide)]
  by_cases hn : (FloatKind.f64.format.read b).isNaN = true
  · obtain ⟨s, t, hd⟩ := isNaN_eq _ hn
    rw [cl_nan hn, hd]
    exact ⟨_, 1, cut_nanConv .f32 b (w.tape w.drawn (.nanConv .f32 b)), by simp [forced_nanConv, Result.andThen, World.drew_is_drewN]⟩
  · have hn' : (FloatKind.f64.format.read b).isNaN = false := by simpa using hn
    rw [cl_num hn'] at hf ⊢
    refine ⟨FloatKind.f32.format.write (FloatKind.f64.format.read b), 0, ?_, ?_⟩
    · exact cl_num (read_write .f32 _ hn')
    · rw [World.drewN_zero]
      unfold fits at hf
      cases hd : FloatKind.f64.format.read b with
      | nan s t => rw [hd] at hn'; cases hn'
      | infinity s => rfl
      | number s m e =>
        simp only [hd, Bool.not_eq_true'] at hf
        simp only [hf]; rfl

/-- The square root as the model has it. -/
theorem run_sqrt (x : Nat) : ∃ b n, cl .f64 b = fsqrt (cl .f64 x) ∧ (Extern.MathSqrt.sqrt #[.float .f64 x]).run P w = .ok (.float .f64 b) (w.drewN n) := by
  have e : fsqrt (cl .f64 x) = FloatKind.f64.format.sqrt x := by
    unfold fsqrt cl
    by_cases hn : (FloatKind.f64.format.read x).isNaN = true
    · obtain ⟨s, t, hd⟩ := isNaN_eq _ hn
      simp [Format.sqrt, hd, Datum.root]
    · simp [hn]
  have e0 : Extern.MathSqrt.sqrt #[.float .f64 x] = (match FloatKind.f64.format.sqrt x with
    | some r => pure (.float .f64 r)
    | none => do pure (.float .f64 (← choose (.nanBits .f64 x x)))) := rfl
  rw [e, e0]
  cases h : FloatKind.f64.format.sqrt x with
  | some r =>
    obtain ⟨d, hd, rfl⟩ := Option.map_eq_some_iff.1 h
    exact ⟨_, 0, cl_num (read_write .f64 d (root_nan hd)), by simp [World.drewN_zero]⟩
  | none =>
    exact ⟨_, 1, cut_nanBits .f64 x x (w.tape w.drawn (.nanBits .f64 x x)), by simp [forced_nanBits, Result.andThen, World.drew_is_drewN]⟩
end

section
variable {P : Program} (w : World) {ops : Array Oper} {rest : List Oper} {o : Oper} {a : Act} {Q : Exit → Act → World → Prop}

theorem wpList_wanted (hg : Region.wanted o (yielded ops a.tmps) = true)
    (h : ∀ K : Act → World → Prop, (∀ a w, wpList P ops Q rest a w → K a w) → o.wp P a w K Q) : wpList P ops Q (o :: rest) a w :=
  wpList_step fun K hK => by rw [hg]; exact h K hK

/-- '+', '-', '*', '/' on two numbers. -/
theorem wpList_farith (op : BinOp) (t t' : TypeId) (x y : Operand) (hop : o.op = .binOp op t x y t') (har : isArith op = true) (k : FloatKind) (p q : Nat) (hx : a.eval x = .float k p) (hy : a.eval y = .float k q)
    (hg : Region.wanted o (yielded ops a.tmps) = true)
    (hK : ∀ b n, cl k b = fop op k (cl k p) (cl k q) → wpList P ops Q rest (a.put o.dst (.float k b)) (w.drewN n)) : wpList P ops Q (o :: rest) a w := by
  refine wpList_wanted w hg fun K hK' => ?_
  obtain ⟨b, n, hb, hr⟩ := run_farith (P := P) w op har t k p q
  unfold Oper.wp
  have he : (eqGuard op t x y (.float k p) (.float k q)).run P w = .ok () w := by
    cases op <;> simp [isArith] at har <;> simp [eqGuard]
  simp [execOp, hop, hx, hy, he, hr, Result.andThen]
  exact hK' _ _ (hK b n hb)

/-- 'float64(x)' of a float32. -/
theorem wpList_widen (s d : TypeId) (x : Operand) (hop : o.op = .convert s d x) (p : Nat) (hx : a.eval x = .float .f32 p) (hd : P.underlying d = some (.float .f64)) (hs : (P.underlying s).isSome = true)
    (hg : Region.wanted o (yielded ops a.tmps) = true)
    (hK : ∀ b n, cl .f64 b = widen (cl .f32 p) → wpList P ops Q rest (a.put o.dst (.float .f64 b)) (w.drewN n)) : wpList P ops Q (o :: rest) a w := by
  refine wpList_wanted w hg fun K hK' => ?_
  obtain ⟨b, n, hb, hr⟩ := run_widen (P := P) w s d p hs hd
  unfold Oper.wp
  simp [execOp, hop, hx, hr, Result.andThen]
  exact hK' _ _ (hK b n hb)

/-- 'float32(x)' of a float64 that fits. -/
theorem wpList_narrow (s d : TypeId) (x : Operand) (hop : o.op = .convert s d x) (p : Nat) (hx : a.eval x = .float .f64 p) (hd : P.underlying d = some (.float .f32)) (hs : (P.underlying s).isSome = true)
    (hg : Region.wanted o (yielded ops a.tmps) = true) (hf : fits (cl .f64 p) = true)
    (hK : ∀ b n, cl .f32 b = narrow (cl .f64 p) → wpList P ops Q rest (a.put o.dst (.float .f32 b)) (w.drewN n)) : wpList P ops Q (o :: rest) a w := by
  refine wpList_wanted w hg fun K hK' => ?_
  obtain ⟨b, n, hb, hr⟩ := run_narrow (P := P) w s d p hs hd hf
  unfold Oper.wp
  simp [execOp, hop, hx, hr, Result.andThen]
  exact hK' _ _ (hK b n hb)
end

/-- A call returns some word of a class, and leaves a world that differs by draws alone. -/
def RetF (k : FloatKind) (r : Option Nat) (w : World) (e : Ending) (w' : World) : Prop := ∃ b n, e = .returned (.float k b) ∧ cl k b = r ∧ w' = w.drewN n
/-- A call returns a value, and leaves a world that differs by draws alone. -/
def RetV (v : Value) (w : World) (e : Ending) (w' : World) : Prop := ∃ n, e = .returned v ∧ w' = w.drewN n
/-- A call returns some word of a class and a truth value. -/
def RetF2 (k : FloatKind) (r : Option Nat) (t : Bool) (w : World) (e : Ending) (w' : World) : Prop := ∃ b n, e = .returned (.tuple #[.float k b, .bool t]) ∧ cl k b = r ∧ w' = w.drewN n

/-! How the walk's tests on numbers are spelled: by classes. -/
@[go_sem] theorem order_cl (k : FloatKind) (x y : Nat) : k.format.order x y = ford k (cl k x) (cl k y) := (ford_cl k x y).symm
@[go_sem, simp] theorem ford_none_left (k : FloatKind) (y : Option Nat) : ford k none y = none := rfl
@[go_sem, simp] theorem ford_none_right (k : FloatKind) (x : Option Nat) : ford k x none = none := by cases x <;> rfl
@[go_sem, simp] theorem fop_none_left (op : BinOp) (k : FloatKind) (y : Option Nat) : fop op k none y = none := rfl
@[go_sem, simp] theorem fop_none_right (op : BinOp) (k : FloatKind) (x : Option Nat) : fop op k x none = none := by cases x <;> rfl
@[go_sem, simp] theorem widen_none : widen none = none := rfl
@[go_sem, simp] theorem narrow_none : narrow none = none := rfl
section
variable {P : Program} (w : World) (a : Addr) (m : Mode)
@[go_sem] theorem run_store_float (k : FloatKind) (b : Nat) : (store a (.float k b) m).run P w = stored P w a (.float k b) m := run_store P w a _ m rfl
@[go_sem] theorem run_store_complex (k : FloatKind) (b c : Nat) : (store a (.complex k b c) m).run P w = stored P w a (.complex k b c) m := run_store P w a _ m rfl
end

/-- Behind a call the world is as it was, but for new blocks and draws. -/
def Gro (w w' : World) : Prop := RowKit.Below w.heap.size w w'
theorem Gro.refl (w : World) : Gro w w := RowKit.Below.refl _ _
theorem Gro.trans {a b c : World} (h1 : Gro a b) (h2 : Gro b c) : Gro a c := RowKit.Below.trans h1 (RowKit.Below.mono h2 h1.size)
theorem Gro.alloc {a b : World} (h : Gro a b) (o : Obj) : Gro a (b.alloc o) := RowKit.Below.alloc h h.size o
theorem Gro.drewN {a b : World} (h : Gro a b) (n : Nat) : Gro a (b.drewN n) := RowKit.Below.trans h ⟨rfl, rfl, rfl, Nat.le_refl _, fun _ _ => rfl⟩
theorem Gro.drew {a b : World} (h : Gro a b) : Gro a b.drew := RowKit.Below.drew h
theorem Gro.below {a b : World} (h : Gro a b) : RowKit.Below a.heap.size a b := h
theorem lt_of_cell {w : World} {a : Addr} {v : Value} (h : w.cell? a = some v) : a.block < w.heap.size := by
  unfold World.cell? at h
  split at h
  · rename_i c _ _ hc; exact (Array.getElem?_eq_some_iff.1 hc).1
  · cases h
theorem Gro.cell {a b : World} (h : Gro a b) {p : Addr} {v : Value} (hc : a.cell? p = some v) : b.cell? p = some v := by
  rw [RowKit.Below.cell h (lt_of_cell hc)]; exact hc

/-- A call returns some word of a class, and leaves a world that differs by new blocks and draws. -/
def RetG (k : FloatKind) (r : Option Nat) (w : World) (e : Ending) (w' : World) : Prop := ∃ b, e = .returned (.float k b) ∧ cl k b = r ∧ Gro w w'

/-- A call returns a vector of three words of given classes; the world differs by new blocks and draws. -/
def RetVec (r0 r1 r2 : Option Nat) (w : World) (e : Ending) (w' : World) : Prop :=
  ∃ b0 b1 b2, e = .returned (.agg #[.float .f32 b0, .float .f32 b1, .float .f32 b2]) ∧ cl .f32 b0 = r0 ∧ cl .f32 b1 = r1 ∧ cl .f32 b2 = r2 ∧ Gro w w'
/-- A pointer to a vector of three words of given classes. -/
def VecAt (s : Value) (r0 r1 r2 : Option Nat) (w : World) : Prop :=
  ∃ g b0 b1 b2, s = .pointer (some ⟨g, 0, none⟩) ∧ w.cell? ⟨g, 0, none⟩ = some (.float .f32 b0) ∧ w.cell? ⟨g, 1, none⟩ = some (.float .f32 b1) ∧ w.cell? ⟨g, 2, none⟩ = some (.float .f32 b2) ∧
    cl .f32 b0 = r0 ∧ cl .f32 b1 = r1 ∧ cl .f32 b2 = r2

@[go_sem, simp] theorem World.setCell_drewN (w : World) (n : Nat) (a : Addr) (v : Value) : (w.drewN n).setCell a v = (w.setCell a v).drewN n := rfl
theorem Gro.setCell {a b : World} (h : Gro a b) {p : Addr} (hp : a.heap.size ≤ p.block) (v : Value) : Gro a (b.setCell p v) := RowKit.Below.setCell h hp v

theorem Gro.frozen {a b : World} (h : Gro a b) {p : Addr} (hp : p.block < a.heap.size) (hf : a.frozen? p = false) : b.frozen? p = false := by
  rw [RowKit.Below.frozen h hp]; exact hf

theorem Gro.cells {a b : World} (h : Gro a b) : ∀ k o, k < a.heap.size → b.cell? ⟨k, o, none⟩ = a.cell? ⟨k, o, none⟩ := fun k o hk => RowKit.Below.cell (p := ⟨k, o, none⟩) h hk
theorem Gro.frozens {a b : World} (h : Gro a b) : ∀ k o, k < a.heap.size → b.frozen? ⟨k, o, none⟩ = a.frozen? ⟨k, o, none⟩ := fun k o hk => RowKit.Below.frozen (p := ⟨k, o, none⟩) h hk
theorem Gro.size {a b : World} (h : Gro a b) : a.heap.size ≤ b.heap.size := RowKit.Below.size h

theorem keep1 {w2 W : World} {a0 : Addr} {v0 : Value} (c0 : w2.cell? a0 = some v0) (h : Gro w2 W) : W.cell? a0 = some v0 :=
  h.cell c0
theorem keep3 {w2 W : World} {a0 a1 a2 : Addr} {v0 v1 v2 : Value} (c0 : w2.cell? a0 = some v0) (c1 : w2.cell? a1 = some v1) (c2 : w2.cell? a2 = some v2) (h : Gro w2 W) : W.cell? a0 = some v0 ∧ W.cell? a1 = some v1 ∧ W.cell? a2 = some v2 :=
  ⟨h.cell c0, h.cell c1, h.cell c2⟩
theorem keep4 {w2 W : World} {a0 a1 a2 a3 : Addr} {v0 v1 v2 v3 : Value} (c0 : w2.cell? a0 = some v0) (c1 : w2.cell? a1 = some v1) (c2 : w2.cell? a2 = some v2) (c3 : w2.cell? a3 = some v3) (h : Gro w2 W) : W.cell? a0 = some v0 ∧ W.cell? a1 = some v1 ∧ W.cell? a2 = some v2 ∧ W.cell? a3 = some v3 :=
  ⟨h.cell c0, h.cell c1, h.cell c2, h.cell c3⟩
theorem keep6 {w2 W : World} {a0 a1 a2 a3 a4 a5 : Addr} {v0 v1 v2 v3 v4 v5 : Value} (c0 : w2.cell? a0 = some v0) (c1 : w2.cell? a1 = some v1) (c2 : w2.cell? a2 = some v2) (c3 : w2.cell? a3 = some v3) (c4 : w2.cell? a4 = some v4) (c5 : w2.cell? a5 = some v5) (h : Gro w2 W) : W.cell? a0 = some v0 ∧ W.cell? a1 = some v1 ∧ W.cell? a2 = some v2 ∧ W.cell? a3 = some v3 ∧ W.cell? a4 = some v4 ∧ W.cell? a5 = some v5 :=
  ⟨h.cell c0, h.cell c1, h.cell c2, h.cell c3, h.cell c4, h.cell c5⟩
theorem keep7 {w2 W : World} {a0 a1 a2 a3 a4 a5 a6 : Addr} {v0 v1 v2 v3 v4 v5 v6 : Value} (c0 : w2.cell? a0 = some v0) (c1 : w2.cell? a1 = some v1) (c2 : w2.cell? a2 = some v2) (c3 : w2.cell? a3 = some v3) (c4 : w2.cell? a4 = some v4) (c5 : w2.cell? a5 = some v5) (c6 : w2.cell? a6 = some v6) (h : Gro w2 W) : W.cell? a0 = some v0 ∧ W.cell? a1 = some v1 ∧ W.cell? a2 = some v2 ∧ W.cell? a3 = some v3 ∧ W.cell? a4 = some v4 ∧ W.cell? a5 = some v5 ∧ W.cell? a6 = some v6 :=
  ⟨h.cell c0, h.cell c1, h.cell c2, h.cell c3, h.cell c4, h.cell c5, h.cell c6⟩
theorem keep12 {w2 W : World} {a0 a1 a2 a3 a4 a5 a6 a7 a8 a9 a10 a11 : Addr} {v0 v1 v2 v3 v4 v5 v6 v7 v8 v9 v10 v11 : Value} (c0 : w2.cell? a0 = some v0) (c1 : w2.cell? a1 = some v1) (c2 : w2.cell? a2 = some v2) (c3 : w2.cell? a3 = some v3) (c4 : w2.cell? a4 = some v4) (c5 : w2.cell? a5 = some v5) (c6 : w2.cell? a6 = some v6) (c7 : w2.cell? a7 = some v7) (c8 : w2.cell? a8 = some v8) (c9 : w2.cell? a9 = some v9) (c10 : w2.cell? a10 = some v10) (c11 : w2.cell? a11 = some v11) (h : Gro w2 W) : W.cell? a0 = some v0 ∧ W.cell? a1 = some v1 ∧ W.cell? a2 = some v2 ∧ W.cell? a3 = some v3 ∧ W.cell? a4 = some v4 ∧ W.cell? a5 = some v5 ∧ W.cell? a6 = some v6 ∧ W.cell? a7 = some v7 ∧ W.cell? a8 = some v8 ∧ W.cell? a9 = some v9 ∧ W.cell? a10 = some v10 ∧ W.cell? a11 = some v11 :=
  ⟨h.cell c0, h.cell c1, h.cell c2, h.cell c3, h.cell c4, h.cell c5, h.cell c6, h.cell c7, h.cell c8, h.cell c9, h.cell c10, h.cell c11⟩

theorem Gro.lts {a b : World} (h : Gro a b) : ∀ k, k < a.heap.size → k < b.heap.size := fun _ hk => Nat.lt_of_lt_of_le hk h.size

theorem VecAt.alloc {w : World} {r0 r1 r2 : Nat} {c0 c1 c2 : Option Nat} {t : TypeId} (e0 : cl .f32 r0 = c0) (e1 : cl .f32 r1 = c1) (e2 : cl .f32 r2 = c2) :
    VecAt (.pointer (some ⟨w.heap.size, 0, none⟩)) c0 c1 c2 (w.alloc (.cells #[.float .f32 r0, .float .f32 r1, .float .f32 r2] t)) :=
  ⟨_, r0, r1, r2, rfl, by simp, by simp, by simp, e0, e1, e2⟩
theorem VecAt.stores {w : World} {g r0 r1 r2 : Nat} {c0 c1 c2 : Option Nat} {z0 z1 z2 : Value} (k0 : w.cell? ⟨g, 0, none⟩ = some z0) (k1 : w.cell? ⟨g, 1, none⟩ = some z1) (k2 : w.cell? ⟨g, 2, none⟩ = some z2)
    (e0 : cl .f32 r0 = c0) (e1 : cl .f32 r1 = c1) (e2 : cl .f32 r2 = c2) :
    VecAt (.pointer (some ⟨g, 0, none⟩)) c0 c1 c2 (((w.setCell ⟨g, 0, none⟩ (.float .f32 r0)).setCell ⟨g, 1, none⟩ (.float .f32 r1)).setCell ⟨g, 2, none⟩ (.float .f32 r2)) :=
  ⟨g, r0, r1, r2, rfl, by simp [go_sem, k0], by simp [go_sem, k1], by simp [go_sem, k2], e0, e1, e2⟩
theorem VecAt.keep {s : Value} {c0 c1 c2 : Option Nat} {w w' : World} (h : VecAt s c0 c1 c2 w) (hg : Gro w w') : VecAt s c0 c1 c2 w' := by
  obtain ⟨g, b0, b1, b2, rfl, k0, k1, k2, e⟩ := h
  exact ⟨g, b0, b1, b2, rfl, hg.cell k0, hg.cell k1, hg.cell k2, e⟩

theorem keep9f {w2 W : World} {a0 a1 a2 a3 a4 a5 a6 a7 a8 : Addr} {v0 v1 v2 v3 v4 v5 v6 v7 v8 : Value} (c0 : w2.cell? a0 = some v0) (c1 : w2.cell? a1 = some v1) (c2 : w2.cell? a2 = some v2) (c3 : w2.cell? a3 = some v3) (c4 : w2.cell? a4 = some v4) (c5 : w2.cell? a5 = some v5)
    (c6 : w2.cell? a6 = some v6) (c7 : w2.cell? a7 = some v7) (c8 : w2.cell? a8 = some v8) (f6 : w2.frozen? a6 = false) (f7 : w2.frozen? a7 = false) (f8 : w2.frozen? a8 = false) (h : Gro w2 W) :
    W.cell? a0 = some v0 ∧ W.cell? a1 = some v1 ∧ W.cell? a2 = some v2 ∧ W.cell? a3 = some v3 ∧ W.cell? a4 = some v4 ∧ W.cell? a5 = some v5 ∧ W.cell? a6 = some v6 ∧ W.cell? a7 = some v7 ∧ W.cell? a8 = some v8 ∧ W.frozen? a6 = false ∧ W.frozen? a7 = false ∧ W.frozen? a8 = false :=
  ⟨h.cell c0, h.cell c1, h.cell c2, h.cell c3, h.cell c4, h.cell c5, h.cell c6, h.cell c7, h.cell c8, h.frozen (lt_of_cell c6) f6, h.frozen (lt_of_cell c7) f7, h.frozen (lt_of_cell c8) f8⟩

/-- A block of three zeros that the call has made. -/
def Own3 (b : Nat) (w : World) : Prop :=
  w.cell? ⟨b, 0, none⟩ = some (.float .f32 0) ∧ w.cell? ⟨b, 1, none⟩ = some (.float .f32 0) ∧ w.cell? ⟨b, 2, none⟩ = some (.float .f32 0) ∧
    w.frozen? ⟨b, 0, none⟩ = false ∧ w.frozen? ⟨b, 1, none⟩ = false ∧ w.frozen? ⟨b, 2, none⟩ = false
theorem Own3.keep {b : Nat} {w w' : World} (h : Own3 b w) (hg : Gro w w') : Own3 b w' := by
  obtain ⟨k0, k1, k2, f0, f1, f2⟩ := h
  exact ⟨hg.cell k0, hg.cell k1, hg.cell k2, hg.frozen (lt_of_cell k0) f0, hg.frozen (lt_of_cell k1) f1, hg.frozen (lt_of_cell k2) f2⟩
theorem Own3.drew {b : Nat} {w : World} (h : Own3 b w) : Own3 b w.drew := h
theorem Own3.new {b : Nat} {w : World} {t : TypeId} (hb : b = w.heap.size) : Own3 b (w.alloc (.cells #[.float .f32 0, .float .f32 0, .float .f32 0] t)) := by
  subst hb
  exact ⟨by simp, by simp, by simp, World.frozen?_alloc_at _ _ _ _ rfl, World.frozen?_alloc_at _ _ _ _ rfl, World.frozen?_alloc_at _ _ _ _ rfl⟩

theorem cell_stores {W : World} {b : Nat} {u0 u1 u2 v : Value} {a : Addr} (h : W.cell? a = some v) (hb : a.block ≠ b) : (((W.setCell ⟨b, 0, none⟩ u0).setCell ⟨b, 1, none⟩ u1).setCell ⟨b, 2, none⟩ u2).cell? a = some v := by
  rw [World.cell?_setCell_other _ _ _ _ (fun e => hb (by rw [← e])), World.cell?_setCell_other _ _ _ _ (fun e => hb (by rw [← e])), World.cell?_setCell_other _ _ _ _ (fun e => hb (by rw [← e]))]
  exact h
theorem keep6s {w2 W : World} {b : Nat} {u0 u1 u2 : Value} {a0 a1 a2 a3 a4 a5 : Addr} {v0 v1 v2 v3 v4 v5 : Value} (c0 : w2.cell? a0 = some v0) (c1 : w2.cell? a1 = some v1) (c2 : w2.cell? a2 = some v2) (c3 : w2.cell? a3 = some v3) (c4 : w2.cell? a4 = some v4) (c5 : w2.cell? a5 = some v5) (n0 : a0.block ≠ b) (n1 : a1.block ≠ b) (n2 : a2.block ≠ b) (n3 : a3.block ≠ b) (n4 : a4.block ≠ b) (n5 : a5.block ≠ b) (h : Gro w2 W) : (((W.setCell ⟨b, 0, none⟩ u0).setCell ⟨b, 1, none⟩ u1).setCell ⟨b, 2, none⟩ u2).cell? a0 = some v0 ∧ (((W.setCell ⟨b, 0, none⟩ u0).setCell ⟨b, 1, none⟩ u1).setCell ⟨b, 2, none⟩ u2).cell? a1 = some v1 ∧ (((W.setCell ⟨b, 0, none⟩ u0).setCell ⟨b, 1, none⟩ u1).setCell ⟨b, 2, none⟩ u2).cell? a2 = some v2 ∧ (((W.setCell ⟨b, 0, none⟩ u0).setCell ⟨b, 1, none⟩ u1).setCell ⟨b, 2, none⟩ u2).cell? a3 = some v3 ∧ (((W.setCell ⟨b, 0, none⟩ u0).setCell ⟨b, 1, none⟩ u1).setCell ⟨b, 2, none⟩ u2).cell? a4 = some v4 ∧ (((W.setCell ⟨b, 0, none⟩ u0).setCell ⟨b, 1, none⟩ u1).setCell ⟨b, 2, none⟩ u2).cell? a5 = some v5 :=
  ⟨cell_stores (h.cell c0) n0, cell_stores (h.cell c1) n1, cell_stores (h.cell c2) n2, cell_stores (h.cell c3) n3, cell_stores (h.cell c4) n4, cell_stores (h.cell c5) n5⟩

/-- A call of the body-less 'math.sqrt'. -/
theorem wpList_sqrt {P : Program} (w : World) {ops : Array Oper} {rest : List Oper} {o : Oper} {a : Act} {Q : Exit → Act → World → Prop} (f : FuncId)
    (hrun : ∀ (x : Nat) (w : World), (callFunc f #[.float .f64 x]).run P w = ((Extern.MathSqrt.sqrt #[.float .f64 x]).run P w).andThen fun v w' => .ok (.value v) w')
    (x : Operand) (ts : Array TypeId) (hop : o.op = .call { callee := .value (.func f), args := #[x], argTypes := ts }) (p : Nat) (hx : a.eval x = .float .f64 p)
    (hg : Region.wanted o (yielded ops a.tmps) = true)
    (hK : ∀ b n, cl .f64 b = fsqrt (cl .f64 p) → wpList P ops Q rest (a.put o.dst (.float .f64 b)) (w.drewN n)) : wpList P ops Q (o :: rest) a w := by
  refine wpList_wanted w hg fun K hK' => ?_
  obtain ⟨b, n, hb, hr⟩ := run_sqrt (P := P) w p
  have hf : a.eval (.func f) = .func (.func f) #[] #[] := rfl
  unfold Oper.wp
  simp [execOp, hop, hf, hx, hrun, hr, resolve, Deferred.ofValue, invoke, Result.andThen]
  exact hK' _ _ (hK b n hb)

end Go.Fl
