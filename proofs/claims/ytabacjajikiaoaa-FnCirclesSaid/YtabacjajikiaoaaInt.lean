/- Slices of integers that a call is handed. -/
import Derived.Test.YtabacjajikiaoaaSli
import Derived.ChangeSlices
namespace Go.Fl
open Ieee Go.ChangeShapes Go.WideShapes Go.RowKit Go.Deep

/-- What a walk is told of a slice of integers that came in. -/
def IsInts (k : IntKind) (w : World) (a : Option Addr) (len cap : Nat) (zs : List Int) : Prop :=
  (a = none ∧ len = 0 ∧ cap = 0 ∧ zs = []) ∨
  ∃ x, a = some x ∧ len ≤ cap ∧ cap ≤ maxLen ∧ len ≤ zs.length ∧ (∀ i, i < len → w.cell? (x.add i) = some (.int k (zs.getD i 0))) ∧ ∀ n ∈ zs, (Lit.int k n).wf = true
section
variable {H : Type} {enc : TypeId × Value → H} {P : Program} {w : World} {base : Nat} {spare : Nat → Bool} {held : Bool}
theorem open_intsS {t e : TypeId} {k : IntKind} {a : Option Addr} {len cap fuel : Nat} {x : DataW H × List MemPlace} (ht : P.underlying t = some (.slice e)) (he : P.underlying e = some (.int k)) (hc : P.cellsOf e = 1)
    (h : DataW.trod enc P w base (fun _ => true) held fuel t [.slice a len cap] = some x) : ∃ zs, IsInts k w a len cap zs := by
  rcases open_ints ht he hc h with ⟨hcs, -⟩ | ⟨a', l, c, zs, hcs, hb, hl, hm, hz, hx, hi, hw⟩
  · simp at hcs; exact ⟨[], .inl ⟨hcs.1, hcs.2.1, hcs.2.2, rfl⟩⟩
  · simp at hcs
    obtain ⟨rfl, rfl, rfl⟩ := hcs
    simp at hz
    exact ⟨zs, .inr ⟨a', rfl, hl, hm, by omega, fun i hil => hi i (by omega), hw⟩⟩
end
/-- A slice's first 'len' cells hold the integers 'Z'. -/
def SlI (k : IntKind) (w : World) (a : Option Addr) (len : Nat) (Z : Nat → Int) : Prop := SlAt w a len fun j => .int k (Z j)
theorem SlI.keep {k : IntKind} {w w' : World} {a : Option Addr} {len : Nat} {Z : Nat → Int} (h : SlI k w a len Z) (hg : Gro w w') : SlI k w' a len Z := SlAt.keep h hg
theorem SlI.of {k : IntKind} {w : World} {a : Option Addr} {len cap : Nat} {zs : List Int} (h : IsInts k w a len cap zs) : SlI k w a len fun j => zs.getD j 0 := by
  rcases h with ⟨rfl, rfl, rfl, rfl⟩ | ⟨x, rfl, hl, hm, hz, hc, -⟩
  · exact ⟨Nat.zero_le _, fun hp => absurd hp (by omega)⟩
  · refine ⟨by omega, fun hp => ?_⟩
    obtain ⟨b, off, spot⟩ := x
    have hs : spot = none := by simpa [Addr.add] using World.cell?_spot (hc 0 hp)
    subst hs
    exact ⟨b, off, rfl, fun j hj => by rw [← Go.WideShapes.add_plain]; exact hc j hj⟩
theorem IsInts.wf {k : IntKind} {w : World} {a : Option Addr} {len cap : Nat} {zs : List Int} (h : IsInts k w a len cap zs) (j : Nat) (hj : j < len) : (Lit.int k (zs.getD j 0)).wf = true := by
  rcases h with ⟨rfl, rfl, rfl, rfl⟩ | ⟨x, rfl, hl, hm, hz, hc, hw⟩
  · omega
  · have hj2 : j < zs.length := by omega
    simp only [List.getD, List.getElem?_eq_getElem hj2, Option.getD_some]
    exact hw _ (List.getElem_mem hj2)
theorem wf_u8 {n : Int} (h : (Lit.int .u8 n).wf = true) : 0 ≤ n ∧ n ≤ 255 := by
  have h' : (decide (IntKind.u8.min ≤ n) && decide (n ≤ IntKind.u8.max)) = true := h
  have e1 : IntKind.u8.min = 0 := by decide
  have e2 : IntKind.u8.max = 255 := by decide
  rw [e1, e2] at h'
  simpa using h'
theorem wf_i64 {n : Int} (h : (Lit.int .i64 n).wf = true) : -9223372036854775808 ≤ n ∧ n ≤ 9223372036854775807 := by
  have h' : (decide (IntKind.i64.min ≤ n) && decide (n ≤ IntKind.i64.max)) = true := h
  have e1 : IntKind.i64.min = -9223372036854775808 := by decide
  have e2 : IntKind.i64.max = 9223372036854775807 := by decide
  rw [e1, e2] at h'
  simpa using h'
end Go.Fl
