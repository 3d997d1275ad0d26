/- Lists of numbers as texts. -/
import Derived.Test.YthcgbpidnaimmaaGreatDoorRdd
import Derived.Lib.Join
namespace Go.Fl
open Go.RowKit Go.Deep

def allIn (Z : Nat → Int) : Nat → Bool
  | 0 => true
  | k + 1 => allIn Z k && decide (inR (Z k))
def lstOk (Z : Nat → Int) (len : Nat) : Bool := allIn Z len && decide (len ≤ 64)
theorem allIn_false {Z : Nat → Int} {k : Nat} (h : ¬ inR (Z k)) : ∀ n, k < n → allIn Z n = false
  | 0, hk => absurd hk (Nat.not_lt_zero _)
  | n + 1, hk => by
    unfold allIn
    rcases Nat.lt_or_eq_of_le (Nat.le_of_lt_succ hk) with h1 | rfl
    · rw [allIn_false h n h1]; rfl
    · rw [decide_eq_false h, Bool.and_false]
theorem allIn_snoc {Z : Nat → Int} {k : Nat} (h : allIn Z k = true) (h2 : inR (Z k)) : allIn Z (k + 1) = true := by
  unfold allIn
  rw [h, decide_eq_true h2]; rfl
def ws (Z : Nat → Int) (k : Nat) : List ByteArray := (List.range k).map fun j => ⟨(Lib.itoa (Z j)).toArray⟩
theorem ws_len (Z : Nat → Int) (k : Nat) : (ws Z k).length = k := by simp [ws]
theorem ws_snoc (Z : Nat → Int) (k : Nat) : ws Z (k + 1) = ws Z k ++ [⟨(Lib.itoa (Z k)).toArray⟩] := by
  unfold ws
  rw [List.range_succ, List.map_append]
  rfl
/-- The text of the first k numbers. -/
def txtC (Z : Nat → Int) : Nat → List UInt8
  | 0 => []
  | k + 1 => if k = 0 then Lib.itoa (Z 0) else txtC Z k ++ (44 :: Lib.itoa (Z k))
theorem join_snoc (xs : List (List UInt8)) (y sep : List UInt8) (h : xs ≠ []) : Lib.join (xs ++ [y]) sep = Lib.join xs sep ++ (sep ++ y) := by
  cases xs with
  | nil => exact absurd rfl h
  | cons x r =>
    rw [List.cons_append, Lib.join_cons, Lib.join_cons]
    simp [Lib.joinTail, List.append_assoc]
theorem join_ws (Z : Nat → Int) : ∀ k, Lib.join ((ws Z k).map (·.data.toList)) [44] = txtC Z k
  | 0 => rfl
  | k + 1 => by
    rw [ws_snoc, List.map_append, txtC]
    rcases Nat.eq_zero_or_pos k with rfl | hk
    · rw [if_pos rfl]
      exact Lib.join_one _ _
    · rw [if_neg (by omega), ← join_ws Z k]
      refine join_snoc _ _ _ ?_
      intro e
      have := congrArg List.length e
      simp [ws_len] at this
      omega
theorem txtC_len (Z : Nat → Int) : ∀ k, (∀ j, j < k → (Lib.itoa (Z j)).length ≤ 21) → (txtC Z k).length ≤ 22 * k
  | 0, _ => Nat.zero_le _
  | k + 1, h => by
    rw [txtC]
    split
    · have := h 0 (by omega); omega
    · have h1 := txtC_len Z k (fun j hj => h j (by omega))
      have h2 := h k (by omega)
      rw [List.length_append, List.length_cons]
      omega
def noneB : ByteArray := ⟨#[110, 111, 110, 101]⟩
def textR (Z : Nat → Int) (len : Nat) : ByteArray := if len = 0 then noneB else ⟨(txtC Z len).toArray⟩
theorem ownsRow_empty {w : World} {base : Nat} {e : TypeId} (hb : base ≤ w.heap.size) : (w.alloc (.cells #[] e)).ownsRow base e 1 (.slice (some ⟨w.heap.size, 0, none⟩) 0 0) 0 [] :=
  ⟨rfl, .inr ⟨_, 0, #[], rfl, hb, heap_alloc_new w _, Nat.le_refl _, by decide, rfl, rfl⟩⟩
theorem text_app (a b : List UInt8) : (⟨a.toArray⟩ : ByteArray) ++ ((⟨#[44]⟩ : ByteArray) ++ (⟨b.toArray⟩ : ByteArray)) = ⟨(a ++ 44 :: b).toArray⟩ := by
  apply ByteArray.ext
  simp
theorem allIn_all {Z : Nat → Int} : ∀ {n : Nat}, allIn Z n = true → ∀ j, j < n → inR (Z j)
  | 0, _, j, hj => absurd hj (Nat.not_lt_zero _)
  | n + 1, h, j, hj => by
    unfold allIn at h
    rw [Bool.and_eq_true, decide_eq_true_eq] at h
    rcases Nat.lt_or_eq_of_le (Nat.le_of_lt_succ hj) with h1 | rfl
    · exact allIn_all h.1 j h1
    · exact h.2
theorem lstOk_all {Z : Nat → Int} {len : Nat} (h : lstOk Z len = true) : (∀ j, j < len → inR (Z j)) ∧ len ≤ 64 := by
  unfold lstOk at h
  rw [Bool.and_eq_true, decide_eq_true_eq] at h
  exact ⟨allIn_all h.1, h.2⟩
theorem own_gro {w w1 : World} {base : Nat} {e : TypeId} {size : Nat} {v : Value} {n : Nat} {xs : List Value} (h : w.ownsRow base e size v n xs) (hg : Gro w w1) : w1.ownsRow base e size v n xs := by
  refine ⟨h.1, h.2.imp id ?_⟩
  rintro ⟨g, cap, cur, e1, e2, e3, rest⟩
  exact ⟨g, cap, cur, e1, e2, by rw [RowKit.Below.block hg g (Array.getElem?_eq_some_iff.1 e3).1]; exact e3, rest⟩
theorem cell_new1 (w : World) (x : Value) (t : TypeId) : ∀ (j : Nat) u, [x][j]? = some u → (w.alloc (.cells #[x] t)).cell? ((⟨w.heap.size, 0, none⟩ : Addr).add j) = some u := by
  intro j u hj
  match j, hj with
  | 0, hj => simp at hj; subst hj; simp [Addr.add]
end Go.Fl
