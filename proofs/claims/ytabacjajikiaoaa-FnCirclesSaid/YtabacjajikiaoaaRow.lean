/- Arguments of floating-point kinds, opened: a number, a struct of numbers, a slice of numbers. -/
import Derived.WalkKit
import Derived.ProofKit
import Derived.OpenShut
import Derived.ShutString
import Derived.ChangeOld
import Derived.Below
import Derived.Laws.Cover2
import Derived.Lib.SmallJoins
import Derived.Deep.Slices
namespace Go.Fl
open Go.ChangeShapes Go.WideShapes Go.RowKit Go.Deep

section
variable {H : Type} {enc : TypeId × Value → H} {P : Program} {w : World} {base : Nat} {spare : Nat → Bool} {held : Bool}

theorem trod_float {t : TypeId} {k : FloatKind} {fuel : Nat} {cs : List Value} {x : DataW H × List MemPlace} (ht : P.underlying t = some (.float k)) (h : DataW.trod enc P w base spare held fuel t cs = some x) :
    ∃ b, cs = [.float k b] ∧ x = (.lit (.float k b), []) ∧ (Lit.float k b).wf = true := by
  cases fuel with
  | zero => simp [DataW.trod] at h
  | succ n =>
    unfold DataW.trod at h
    rw [ht] at h
    split at h <;> simp_all

/-- What a walk is told of a slice of float32 that came in: it is nil; or it leads to a row whose first 'len' cells are the numbers 'zs'. -/
def IsFloats (w : World) (a : Option Addr) (len cap : Nat) (zs : List Nat) : Prop :=
  (a = none ∧ len = 0 ∧ cap = 0 ∧ zs = []) ∨
  ∃ x, a = some x ∧ len ≤ cap ∧ cap ≤ maxLen ∧ zs.length = len ∧ (∀ i, i < len → w.cell? (x.add i) = some (.float .f32 (zs.getD i 0))) ∧ ∀ n ∈ zs, n < 2 ^ 32

theorem open_floats {t e : TypeId} {a : Option Addr} {len cap fuel : Nat} {x : DataW H × List MemPlace} (ht : P.underlying t = some (.slice e)) (he : P.underlying e = some (.float .f32)) (hc : P.cellsOf e = 1)
    (h : DataW.trod enc P w base (fun _ => true) held fuel t [.slice a len cap] = some x) : ∃ zs, IsFloats w a len cap zs := by
  rcases open_slice1 ht hc h with ⟨hcs, -⟩ | ⟨x0, l, c, m, n, V, D, Pl, hcs, hb, hl, hm, hmm, hx, hi⟩
  · simp at hcs; exact ⟨[], .inl ⟨hcs.1, hcs.2.1, hcs.2.2, rfl⟩⟩
  · simp at hcs
    obtain ⟨rfl, rfl, rfl⟩ := hcs
    simp at hmm
    subst hmm
    obtain ⟨F, hF⟩ := choose_lt (α := Nat) (n := m) (p := fun i b => V i = .float .f32 b ∧ (Lit.float .f32 b).wf = true) (fun i him => by
      obtain ⟨b, hcs, -, hw⟩ := trod_float he (hi i him).2
      exact ⟨b, by simpa using hcs, hw⟩)
    refine ⟨(List.range len).map F, .inr ⟨x0, rfl, hl, hm, by simp, fun i hil => ?_, fun n hn => ?_⟩⟩
    · rw [(hi i (by omega)).1, (hF i (by omega)).1]; simp [List.getD, hil]
    · obtain ⟨i, hir, rfl⟩ := List.mem_map.1 hn
      have := (hF i (by have := List.mem_range.1 hir; omega)).2
      simpa [Lit.wf] using this
end

end Go.Fl
