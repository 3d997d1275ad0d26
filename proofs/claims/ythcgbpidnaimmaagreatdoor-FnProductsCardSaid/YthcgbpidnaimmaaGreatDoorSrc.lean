/- The reference's source of choices: a block of three cells that is read and moved on; whatever it gives is bounded, and nothing else is touched. -/
import Derived.Test.YthcgbpidnaimmaaGreatDoorCpx
import Derived.OwnWalk
namespace Go.Fl
open Ieee Go.RowKit Go.Deep

theorem bits_and255 (X : Int) : 0 ≤ bits .and .u64 X 255 ∧ bits .and .u64 X 255 ≤ 255 := by
  have h : (BitVec.ofInt 64 X &&& BitVec.ofInt 64 255).toNat ≤ 255 := by
    rw [BitVec.toNat_and]
    exact Nat.and_le_right
  unfold bits
  show 0 ≤ IntKind.u64.wrap ((BitVec.ofInt 64 X &&& BitVec.ofInt 64 255).toNat : Int) ∧ IntKind.u64.wrap ((BitVec.ofInt 64 X &&& BitVec.ofInt 64 255).toNat : Int) ≤ 255
  rw [IntKind.wrap_u64]
  omega
/-- The source's block: the bytes, where it stands, at most K, and its seed. -/
def SrcAt (g : Nat) (T : TypeId) (a : Option Addr) (len cap K : Nat) (w : World) : Prop :=
  ∃ (at_ : Nat) (seed : Int), at_ ≤ K ∧ 0 ≤ seed ∧ seed < 18446744073709551616 ∧ w.heap[g]? = some (.cells #[.slice a len cap, .int .i64 at_, .int .u64 seed] T (0, 0))
theorem SrcAt.mono {g : Nat} {T : TypeId} {a : Option Addr} {len cap K K' : Nat} {w : World} (h : SrcAt g T a len cap K w) (hk : K ≤ K') : SrcAt g T a len cap K' w := by
  obtain ⟨x, s, hx, rest⟩ := h
  exact ⟨x, s, Nat.le_trans hx hk, rest⟩
theorem grown_trans {w1 w2 w3 : World} {row : Option Nat} (h : w1.grownBy w2 row) (k : w2.grownBy w3 row) : w1.grownBy w3 row :=
  ⟨k.os.trans h.os, k.tape.trans h.tape, k.output.trans h.output, Nat.le_trans h.size k.size, fun i hi hr => (k.block i (Nat.lt_of_lt_of_le hi h.size) hr).trans (h.block i hi hr)⟩
theorem grown_set (w : World) (g o : Nat) (v : Value) : w.grownBy (w.setCell ⟨g, o, none⟩ v) (some g) := by
  have h := RowKit.Below.setCell (RowKit.Below.refl 0 w) (p := ⟨g, o, none⟩) (Nat.zero_le _) v
  refine ⟨h.os, h.tape, h.output, h.size, fun k _ hr => ?_⟩
  have hne : ¬ g = k := fun e => hr (by rw [e])
  simp [World.setCell, Array.getElem?_modify, hne]
theorem grown_drewN (w : World) (n : Nat) (row : Option Nat) : w.grownBy (w.drewN n) row := ⟨rfl, rfl, rfl, Nat.le_refl _, fun _ _ _ => rfl⟩
theorem SrcAt.cells {g : Nat} {T : TypeId} {a : Option Addr} {len cap x : Nat} {seed : Int} {w : World} (h : w.heap[g]? = some (.cells #[.slice a len cap, .int .i64 x, .int .u64 seed] T (0, 0))) :
    w.cell? ⟨g, 0, none⟩ = some (.slice a len cap) ∧ w.cell? ⟨g, 1, none⟩ = some (.int .i64 x) ∧ w.cell? ⟨g, 2, none⟩ = some (.int .u64 seed) ∧ w.frozen? ⟨g, 1, none⟩ = false ∧ w.frozen? ⟨g, 2, none⟩ = false := by
  simp [World.cell?, World.frozen?, h]
theorem SrcAt.block {g : Nat} {T : TypeId} {a : Option Addr} {len cap K : Nat} {w w' : World} (h : SrcAt g T a len cap K w) (hb : w'.heap[g]? = w.heap[g]?) : SrcAt g T a len cap K w' := by
  obtain ⟨x, s, h1, h2, h3, h4⟩ := h
  exact ⟨x, s, h1, h2, h3, hb.trans h4⟩
theorem SrcAt.drewN {g : Nat} {T : TypeId} {a : Option Addr} {len cap K : Nat} {w : World} (h : SrcAt g T a len cap K w) (n : Nat) : SrcAt g T a len cap K (w.drewN n) := h
theorem SrcAt.lt {g : Nat} {T : TypeId} {a : Option Addr} {len cap K : Nat} {w : World} (h : SrcAt g T a len cap K w) : g < w.heap.size := by
  obtain ⟨x, s, -, -, -, h4⟩ := h
  exact (Array.getElem?_eq_some_iff.1 h4).1
theorem src_step {g : Nat} {T : TypeId} {a : Option Addr} {len cap x : Nat} {seed : Int} (seed' : Int) {w : World} (h : w.heap[g]? = some (.cells #[.slice a len cap, .int .i64 x, .int .u64 seed] T (0, 0))) :
    ((w.setCell ⟨g, 1, none⟩ (.int .i64 ((x : Int) + 1))).setCell ⟨g, 2, none⟩ (.int .u64 seed')).heap[g]? = some (.cells #[.slice a len cap, .int .i64 ((x + 1 : Nat) : Int), .int .u64 seed'] T (0, 0)) := by
  simp [World.setCell, Array.getElem?_modify, h]
/-- What a draw leaves. -/
def Drawn (g : Nat) (T : TypeId) (a : Option Addr) (len cap K : Nat) (w w' : World) : Prop := w.grownBy w' (some g) ∧ SrcAt g T a len cap K w'
theorem Drawn.trans {g : Nat} {T : TypeId} {a : Option Addr} {len cap K K' : Nat} {w1 w2 w3 : World} (h : Drawn g T a len cap K w1 w2) (k : Drawn g T a len cap K' w2 w3) : Drawn g T a len cap K' w1 w3 := ⟨grown_trans h.1 k.1, k.2⟩
theorem Drawn.drewN {g : Nat} {T : TypeId} {a : Option Addr} {len cap K : Nat} {w1 w2 : World} (h : Drawn g T a len cap K w1 w2) (n : Nat) : Drawn g T a len cap K w1 (w2.drewN n) := ⟨grown_trans h.1 (grown_drewN _ _ _), h.2⟩
theorem Drawn.drew {g : Nat} {T : TypeId} {a : Option Addr} {len cap K : Nat} {w1 w2 : World} (h : Drawn g T a len cap K w1 w2) : Drawn g T a len cap K w1 w2.drew := by rw [World.drew_is_drewN]; exact h.drewN 1
theorem Drawn.mono {g : Nat} {T : TypeId} {a : Option Addr} {len cap K K' : Nat} {w1 w2 : World} (h : Drawn g T a len cap K w1 w2) (hk : K ≤ K') : Drawn g T a len cap K' w1 w2 := ⟨h.1, h.2.mono hk⟩
theorem Drawn.refl {g : Nat} {T : TypeId} {a : Option Addr} {len cap K : Nat} {w : World} (h : SrcAt g T a len cap K w) : Drawn g T a len cap K w w := ⟨World.grownBy.refl _ _, h⟩
theorem Drawn.gro {g : Nat} {T : TypeId} {a : Option Addr} {len cap K : Nat} {w0 w1 w2 : World} (h : Drawn g T a len cap K w1 w2) (hg : Gro w0 w1) (hb : w0.heap.size ≤ g) : Gro w0 w2 :=
  RowKit.Below.grown hg h.1 hg.size (fun k hk => by cases hk; exact hb)
theorem Drawn.alloc {g : Nat} {T : TypeId} {a : Option Addr} {len cap K : Nat} {w : World} (h : SrcAt g T a len cap K w) (o : Obj) : Drawn g T a len cap K w (w.alloc o) :=
  ⟨World.grownBy_alloc w o _, h.block (heap_alloc_old w o h.lt)⟩
/-- Bytes as they are read. -/
def BytesIn (w : World) (a : Option Addr) (len : Nat) (Z : Nat → Int) : Prop := SlI .u8 w a len Z ∧ ∀ j, 0 ≤ Z j ∧ Z j ≤ 255
theorem wf_fop (op : BinOp) (k : FloatKind) (x y : Nat) : WfC k (fop op k (cl k x) (cl k y)) := by
  intro b hb
  rw [fop_cl] at hb
  have := floatBits_wf hb
  cases k
  · have h2 : b < 2 ^ 32 := by simpa [Lit.wf] using this
    exact h2
  · have h2 : b < 2 ^ 64 := by simpa [Lit.wf] using this
    exact h2
theorem nb_nb {n : Nat} : nb (nb n) = nb n := by
  unfold nb
  rcases hc : cl .f32 n with _ | c
  · decide +kernel
  · obtain ⟨rfl, -⟩ := cl_some hc
    simp [bitsC, hc]
theorem okH_hexT (n : Nat) (h : WfC .f32 (cl .f32 n)) : okH (hexT n) = true ∧ valH (hexT n) = nb n := by
  have h1 : hexN (hexT n).data.toList = some (nb n) := hexN_some.2 ⟨nb_le' h, rfl⟩
  have := okH_full h1
  rw [nb_nb] at this
  exact ⟨by rw [this.1]; simp, this.2⟩
/-- A list of words, written out. -/
def okCells (cs : Array Value) (n : Nat) : Bool := (List.range n).all fun j => match cs[j]? with
  | some (.int .i64 v) => decide (0 ≤ v) && decide (v ≤ 4294967295)
  | _ => false
theorem okCells_at {cs : Array Value} {n : Nat} (h : okCells cs n = true) {j : Nat} (hj : j < n) : ∃ v : Int, cs[j]? = some (.int .i64 v) ∧ 0 ≤ v ∧ v ≤ 4294967295 := by
  unfold okCells at h
  rw [List.all_eq_true] at h
  have := h j (List.mem_range.2 hj)
  split at this
  · rename_i v hv
    rw [Bool.and_eq_true, decide_eq_true_eq, decide_eq_true_eq] at this
    exact ⟨v, hv, this.1, this.2⟩
  · cases this
theorem Drawn.append {g : Nat} {T : TypeId} {a : Option Addr} {len cap K : Nat} {w w3 w' : World} {o : Obj} {row : Option Nat} (h : Drawn g T a len cap K w w3) (hg : (w3.alloc o).grownBy w' row) (hrow : ∀ k, row = some k → w.heap.size ≤ k) (hlt : g < w.heap.size) : Drawn g T a len cap K w w' := by
  have h1 := grown_trans h.1 (World.grownBy_alloc w3 o (some g))
  have hne : some g ≠ row := fun e => by have := hrow g e.symm; omega
  refine ⟨⟨hg.os.trans h1.os, hg.tape.trans h1.tape, hg.output.trans h1.output, Nat.le_trans h1.size hg.size, fun k hk hr => ?_⟩, ?_⟩
  · rw [hg.block k (Nat.lt_of_lt_of_le hk h1.size) (fun e => by have := hrow k e.symm; omega)]
    exact h1.block k hk hr
  · have h2 : SrcAt g T a len cap K (w3.alloc o) := h.2.block (heap_alloc_old w3 o h.2.lt)
    exact h2.block (hg.block g h2.lt hne)
theorem ownsRow_moved {w w1 : World} {base : Nat} {e : TypeId} {v : Value} {n : Nat} {xs : List Value} {g : Nat} (h : w.ownsRow base e 1 v n xs) (hg : w.grownBy w1 (some g)) (hlt : g < base) : w1.ownsRow base e 1 v n xs :=
  h.kept hg (by
    cases hv : v.ownBlock with
    | none => exact .inl rfl
    | some k => exact .inr fun e => by cases e; have := (World.ownsRow.lt h g hv).1; omega)
theorem ownsRow_base {w : World} {base base' : Nat} {e : TypeId} {v : Value} {n : Nat} {xs : List Value} (h : w.ownsRow base e 1 v n xs) (hb : base' ≤ base) : w.ownsRow base' e 1 v n xs := by
  refine ⟨h.1, h.2.imp id ?_⟩
  rintro ⟨g, cap, cur, e1, e2, rest⟩
  exact ⟨g, cap, cur, e1, Nat.le_trans hb e2, rest⟩
end Go.Fl
