/- Decimal numerals, digit by digit. -/
import Derived.Test.YthcgbpidnaimmaaGreatDoorInt
import Derived.Lib.ItoaNum
import Derived.Lib.ItoaLen
import Derived.Lib.ItoaMem
import Derived.Lib.AppendIntMem
import Derived.Lib.Slices
import Derived.Laws.AppendOwn
import Derived.Laws.IdiomStrings
import Derived.OwnWalk
namespace Go.Fl
open Go.RowKit Go.Deep

/-- The digits of u so far: r is what is left, ds what has been written. -/
def decInv (u : Nat) (r : Int) (ds : List UInt8) : Prop := if r = 0 ∧ ds ≠ [] then Lib.decDigits u = ds else Lib.decDigits u = Lib.decDigits r.natAbs ++ ds
theorem decInv_start (n : Int) : decInv n.natAbs n [] := by
  unfold decInv
  rw [if_neg (by simp), List.append_nil]
theorem decInv_end {u : Nat} {ds : List UInt8} (h : decInv u 0 ds) (h0 : ds ≠ []) : Lib.decDigits u = ds := by
  unfold decInv at h
  rwa [if_pos ⟨rfl, h0⟩] at h
theorem natAbs_tdiv (r : Int) : (Int.tdiv r 10).natAbs = r.natAbs / 10 := by
  rw [Int.natAbs_tdiv]; rfl
theorem natAbs_tmod (r : Int) : (Int.tmod r 10).natAbs = r.natAbs % 10 := by
  rw [Int.natAbs_tmod]; rfl
theorem decInv_step {u : Nat} {r : Int} {ds : List UInt8} (h : decInv u r ds) (hc : ¬ (r = 0 ∧ ds ≠ [])) : decInv u (Int.tdiv r 10) (UInt8.ofNat (48 + r.natAbs % 10) :: ds) := by
  unfold decInv at h
  rw [if_neg hc] at h
  unfold decInv
  have hd := natAbs_tdiv r
  by_cases hv : r.natAbs < 10
  · have h0 : Int.tdiv r 10 = 0 := by
      have : (Int.tdiv r 10).natAbs = 0 := by rw [hd]; omega
      omega
    rw [if_pos ⟨h0, by simp⟩, h, Lib.decDigits_one hv, Nat.mod_eq_of_lt hv]; rfl
  · have h0 : Int.tdiv r 10 ≠ 0 := by
      intro e
      rw [e] at hd
      simp at hd
      omega
    rw [if_neg (fun g => h0 g.1), hd, h]
    conv => lhs; rw [Lib.decDigits, dif_neg hv]
    simp
theorem decInv_len {u : Nat} {r : Int} {ds : List UInt8} (h : decInv u r ds) : ds.length ≤ Lib.nDigits u := by
  rw [← Lib.decDigits_length]
  unfold decInv at h
  split at h
  · rw [h]; exact Nat.le_refl _
  · rw [h, List.length_append]; omega

/-- A slice that the call has made, its cells bytes. -/
def ByteRow (w0 w : World) (v : Value) (ds : List UInt8) : Prop :=
  ∃ g cap, v = .slice (some ⟨g, 0, none⟩) ds.length cap ∧ (∀ (j : Nat) u, (Lib.byteCells ds)[j]? = some u → w.cell? ((⟨g, 0, none⟩ : Addr).add j) = some u) ∧ Gro w0 w
theorem ByteRow.grow {t : TypeId} {w0 w : World} {v : Value} {ds : List UInt8} (h : w.ownsRow w0.heap.size t 1 v ds.length (Lib.byteCells ds)) (hg : Gro w0 w) (hn : v ≠ .slice none 0 0) : ByteRow w0 w v ds := by
  rcases h.2 with ⟨e, -⟩ | ⟨g, cap, cur, rfl, -⟩
  · exact absurd e hn
  · exact ⟨g, cap, rfl, h.cells (g := g) rfl, hg⟩
theorem nDigits_20 {n : Int} (h0 : -9223372036854775808 ≤ n) (h1 : n ≤ 9223372036854775807) : Lib.nDigits n.natAbs ≤ 20 := by
  have := Lib.nDigits_le20 n.natAbs (by omega)
  exact this
theorem ownsRow_lit {w : World} {base : Nat} {e : TypeId} {x : Value} (hb : base ≤ w.heap.size) : (w.alloc (.cells #[x] e)).ownsRow base e 1 (.slice (some ⟨w.heap.size, 0, none⟩) 1 1) 1 [x] :=
  ⟨rfl, .inr ⟨_, 1, #[x], rfl, hb, heap_alloc_new w _, Nat.le_refl _, by decide, rfl, rfl⟩⟩
theorem byte_cons {D : Nat} (h : D ≤ 9) (ds : List UInt8) : [Value.int .u8 (48 + (D : Int))] ++ Lib.byteCells ds = Lib.byteCells (UInt8.ofNat (48 + D) :: ds) := by
  have e : ((UInt8.ofNat (48 + D)).toNat : Int) = 48 + (D : Int) := by
    rw [UInt8.toNat_ofNat', Nat.mod_eq_of_lt (by omega)]
    omega
  unfold Lib.byteCells
  rw [List.map_cons, e]
  rfl
theorem tmod_cases (r : Int) : (r.tmod 10 = -((r.natAbs % 10 : Nat) : Int) ∧ 0 < r.natAbs % 10) ∨ r.tmod 10 = ((r.natAbs % 10 : Nat) : Int) := by
  have := natAbs_tmod r
  omega
theorem tdiv_in {r : Int} (r0 : -9223372036854775808 ≤ r) (r1 : r ≤ 9223372036854775807) : -9223372036854775808 ≤ r.tdiv 10 ∧ r.tdiv 10 ≤ 9223372036854775807 := by
  have := natAbs_tdiv r
  omega
def lenOf : Value → Nat
  | .slice _ n _ => n
  | _ => 0
end Go.Fl
