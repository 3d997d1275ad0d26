/- Six numbers: a struct of six, a list of six; two lists of numbers that are alike. -/
import Derived.Test.YtepeohbcnfgliaaSli
namespace Go.Fl
open Go.RowKit Go.Deep Go.ChangeShapes Go.WideShapes Go.Joins

/-- The first 'k' numbers of two lists are alike. -/
def allEq (Y Z : Nat → Nat) : Nat → Bool
  | 0 => true
  | k + 1 => allEq Y Z k && decide (cl .f32 (Y k) = cl .f32 (Z k))
theorem allEq_false {Y Z : Nat → Nat} {k : Nat} (h : decide (cl .f32 (Y k) = cl .f32 (Z k)) = false) : ∀ n, k < n → allEq Y Z n = false
  | 0, hk => absurd hk (Nat.not_lt_zero _)
  | n + 1, hk => by
    by_cases e : k = n
    · subst e; simp [allEq, h]
    · simp [allEq, allEq_false h n (by omega)]

def six (x0 x1 x2 x3 x4 x5 : Nat) (j : Nat) : Nat := [x0, x1, x2, x3, x4, x5].getD j 0
theorem six_new {w : World} {x0 x1 x2 x3 x4 x5 g : Nat} {t : TypeId} (hg : g = w.heap.size) :
    SlF (w.alloc (.cells #[.float .f32 x0, .float .f32 x1, .float .f32 x2, .float .f32 x3, .float .f32 x4, .float .f32 x5] t)) (some ⟨g, 0, none⟩) 6 (six x0 x1 x2 x3 x4 x5) := by
  subst hg
  refine SlAt.row (t := t) (by unfold maxLen; omega) (World.rowIs_alloc w #[.float .f32 x0, .float .f32 x1, .float .f32 x2, .float .f32 x3, .float .f32 x4, .float .f32 x5] t (fun j => .float .f32 (six x0 x1 x2 x3 x4 x5 j)) ?_)
  intro i hi
  match i, hi with
  | 0, _ => rfl
  | 1, _ => rfl
  | 2, _ => rfl
  | 3, _ => rfl
  | 4, _ => rfl
  | 5, _ => rfl
  | n + 6, h => exact absurd h (by simp)
theorem six_wf {x0 x1 x2 x3 x4 x5 : Nat} (h0 : x0 < 2 ^ 32) (h1 : x1 < 2 ^ 32) (h2 : x2 < 2 ^ 32) (h3 : x3 < 2 ^ 32) (h4 : x4 < 2 ^ 32) (h5 : x5 < 2 ^ 32) : ∀ j, six x0 x1 x2 x3 x4 x5 j < 2 ^ 32
  | 0 => h0
  | 1 => h1
  | 2 => h2
  | 3 => h3
  | 4 => h4
  | 5 => h5
  | _ + 6 => by unfold six; simp

section
variable {H : Type} {enc : TypeId × Value → H} {P : Program} {w : World} {base : Nat} {spare : Nat → Bool} {held : Bool}
/-- A struct whose every field is a float32, and has one cell. -/
theorem open_allF {r : Reach} {b0 : Nat} {t : TypeId} {fs : Array Field} {v : Value} {d : DataW H} {p : List MemPlace} (hs : P.underlying t = some (.struct fs)) (hone : oneCellFields P fs = true) (hC : P.cellsOf t = fs.size)
    (T : TypeId) (hT : P.underlying T = some (.float .f32)) (hall : fs.all (fun f => f.type == T) = true) (hv : Value.okWide P w r b0 t v) (h : DataW.Trod enc P w base spare held t v d p) :
    ∃ cs : Array Value, v = .agg cs ∧ cs.size = fs.size ∧ ∀ j, j < fs.size → ∃ b, cs[j]? = some (.float .f32 b) ∧ b < 2 ^ 32 := by
  obtain ⟨cs, rfl, hsz⟩ := okWide_struct hs hv
  obtain ⟨fuel, hx⟩ := h
  obtain ⟨ys, n, -, -, -, hn, hg⟩ := DataW.trod_struct hs hx
  refine ⟨cs, rfl, hsz.trans hC, fun j hj => ?_⟩
  have hjf : fs[j]? = some fs[j] := Array.getElem?_eq_getElem hj
  obtain ⟨o, k⟩ := hone_of hone j _ hjf
  have hcj : j < cs.size := by rw [hsz, hC]; exact hj
  have h1 := hg j _ hjf
  rw [o, k] at h1
  have hd : ((Value.agg cs).cells.toList.drop j).take 1 = [cs[j]] := by
    have hl : (Value.agg cs).cells.toList = cs.toList := by simp [Value.cells]
    rw [hl, List.drop_eq_getElem_cons (by simpa using hcj)]
    simp
  rw [hd] at h1
  obtain ⟨y, hy⟩ : ∃ y, ys[j]? = some y := ⟨_, List.getElem?_eq_getElem (by simpa using (by omega : j < ys.length))⟩
  rw [hy] at h1
  have hty : fs[j].type = T := by simpa using Array.all_eq_true.1 hall j hj
  obtain ⟨b, hb, -, hw⟩ := trod_float (by rw [hty]; exact hT) h1
  exact ⟨b, by rw [Array.getElem?_eq_getElem hcj]; simpa using hb, by simpa [Lit.wf] using hw⟩
end

theorem arr6 {cs : Array Value} {v0 v1 v2 v3 v4 v5 : Value} (h : cs.size = 6) (h0 : cs[0]? = some v0) (h1 : cs[1]? = some v1) (h2 : cs[2]? = some v2) (h3 : cs[3]? = some v3) (h4 : cs[4]? = some v4) (h5 : cs[5]? = some v5) :
    cs = #[v0, v1, v2, v3, v4, v5] := by
  obtain ⟨l⟩ := cs
  match l, h with
  | [a, b, c, d, e, f], _ => simp at h0 h1 h2 h3 h4 h5; subst h0 h1 h2 h3 h4 h5; rfl

end Go.Fl
