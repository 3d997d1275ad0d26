/- Slices of single words that a call is handed or has made: where their cells lie, and that they stay. -/
import Derived.Test.YtabacjajikiaoaaLaw
import Derived.Test.YtabacjajikiaoaaRow
import Derived.Deep.OwnRows
namespace Go.Fl
open Go.RowKit Go.Deep

/-- A slice's first 'len' cells hold the values 'V'. -/
def SlAt (w : World) (a : Option Addr) (len : Nat) (V : Nat → Value) : Prop :=
  len ≤ maxLen ∧ (0 < len → ∃ b off, a = some ⟨b, off, none⟩ ∧ ∀ j, j < len → w.cell? ⟨b, off + j, none⟩ = some (V j))
/-- .. the numbers 'Z'. -/
def SlF (w : World) (a : Option Addr) (len : Nat) (Z : Nat → Nat) : Prop := SlAt w a len fun j => .float .f32 (Z j)

theorem SlAt.keep {w w' : World} {a : Option Addr} {len : Nat} {V : Nat → Value} (h : SlAt w a len V) (hg : Gro w w') : SlAt w' a len V :=
  ⟨h.1, fun hp => by obtain ⟨b, off, e, hc⟩ := h.2 hp; exact ⟨b, off, e, fun j hj => hg.cell (hc j hj)⟩⟩
theorem SlF.keep {w w' : World} {a : Option Addr} {len : Nat} {Z : Nat → Nat} (h : SlF w a len Z) (hg : Gro w w') : SlF w' a len Z := SlAt.keep h hg
theorem SlAt.row {w : World} {b : Nat} {t : TypeId} {n : Nat} {V : Nat → Value} (hn : n ≤ maxLen) (h : w.rowIs b t n V) : SlAt w (some ⟨b, 0, none⟩) n V :=
  ⟨hn, fun _ => ⟨b, 0, rfl, fun j hj => by rw [Nat.zero_add]; exact h.cell hj⟩⟩
theorem SlF.of {w : World} {a : Option Addr} {len cap : Nat} {zs : List Nat} (h : IsFloats w a len cap zs) : SlF w a len fun j => zs.getD j 0 := by
  rcases h with ⟨rfl, rfl, rfl, rfl⟩ | ⟨x, rfl, hl, hm, hz, hc, -⟩
  · exact ⟨Nat.zero_le _, fun hp => absurd hp (by omega)⟩
  · refine ⟨by omega, fun hp => ?_⟩
    obtain ⟨b, off, spot⟩ := x
    have hs : spot = none := by simpa [Addr.add] using World.cell?_spot (hc 0 hp)
    subst hs
    exact ⟨b, off, rfl, fun j hj => by rw [← Go.WideShapes.add_plain]; exact hc j hj⟩
theorem IsFloats.wf {w : World} {a : Option Addr} {len cap : Nat} {zs : List Nat} (h : IsFloats w a len cap zs) (j : Nat) : zs.getD j 0 < 2 ^ 32 := by
  rcases h with ⟨rfl, rfl, rfl, rfl⟩ | ⟨x, rfl, hl, hm, hz, hc, hw⟩
  · simp
  · by_cases hj : j < zs.length
    · simp only [List.getD, List.getElem?_eq_getElem hj, Option.getD_some]
      exact hw _ (List.getElem_mem hj)
    · simp [List.getD, List.getElem?_eq_none (Nat.le_of_not_lt hj)]

theorem rowIs_drewN {w : World} {b : Nat} {t : TypeId} {n : Nat} {V : Nat → Value} (h : w.rowIs b t n V) (m : Nat) : (w.drewN m).rowIs b t n V := h.of_block rfl
theorem rowIs_keep {w w' : World} {b : Nat} {t : TypeId} {n : Nat} {V : Nat → Value} (h : w.rowIs b t n V) (hg : Gro w w') : w'.rowIs b t n V := h.of_block (RowKit.Below.block hg b h.lt)

/-! The same laws for the operations of a region that draws its order. -/
theorem upon_widen {P : Program} {o : Oper} {a : Act} {K : Act → World → Prop} {Q : Exit → Act → World → Prop} (s d : TypeId) (b : Nat) (w : World) (hd : P.underlying d = some (.float .f64)) (hs : (P.underlying s).isSome = true)
    (h : ∀ r n, cl .f64 r = widen (cl .f32 b) → K (a.put o.dst (.float .f64 r)) (w.drewN n)) : Oper.upon P o a K Q (((convert s d (.float .f32 b)).run P w).andThen fun v w' => .ok (.value v) w') := by
  obtain ⟨r, n, hr, he⟩ := run_widen (P := P) w s d b hs hd
  rw [he]
  exact h r n hr
theorem upon_farith {P : Program} {o : Oper} {a : Act} {K : Act → World → Prop} {Q : Exit → Act → World → Prop} (op : BinOp) (t : TypeId) (k : FloatKind) (x y : Nat) (w : World) (hop : isArith op = true)
    (h : ∀ r n, cl k r = fop op k (cl k x) (cl k y) → K (a.put o.dst (.float k r)) (w.drewN n)) : Oper.upon P o a K Q (((binOp op t (.float k x) (.float k y)).run P w).andThen fun v w' => .ok (.value v) w') := by
  obtain ⟨r, n, hr, he⟩ := run_farith (P := P) w op hop t k x y
  rw [he]
  exact h r n hr

/-- A running sum, and a running sum of products. -/
def sumF (f : Nat → Option Nat) : Nat → Option Nat
  | 0 => cl .f32 0
  | k + 1 => fop .add .f32 (sumF f k) (f k)

end Go.Fl
