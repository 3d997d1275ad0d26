/- Six numbers: a struct of six, a list of six; two lists of numbers that are alike. -/
import Derived.Test.YtabacjajikiaoaaSli
namespace Go.Fl
open Go.RowKit Go.Deep Go.ChangeShapes Go.WideShapes Go.Joins

/-- The first 'k' numbers of two lists are alike. -/
def allEq (Y Z : Nat → Nat) : Nat → Bool
  | 0 => true
  | k + 1 => allEq Y Z k && decide (cl .f32 (Y k) = cl .f32 (Z k))
theorem allEq_false {Y Z : Nat → Nat} {k : Nat} (h : decide (cl .f32 (Y k) = cl .f32 (Z k)) = false) : ∀ n, k < n → allEq Y Z n = false
  | 0, hk => absurd hk (Nat.not_lt_zero _)
  | n + 1, hk => by
    by_cases e : k = n
    · subst e; simp [allEq, h]
    · simp [allEq, allEq_false h n (by omega)]

def six (x0 x1 x2 x3 x4 x5 : Nat) (j : Nat) : Nat := [x0, x1, x2, x3, x4, x5].getD j 0
theorem six_new {w : World} {x0 x1 x2 x3 x4 x5 g : Nat} {t : TypeId} (hg : g = w.heap.size) :
    SlF (w.alloc (.cells #[.float .f32 x0, .float .f32 x1, .float .f32 x2, .float .f32 x3, .float .f32 x4, .float .f32 x5] t)) (some ⟨g, 0, none⟩) 6 (six x0 x1 x2 x3 x4 x5) := by
  subst hg
  refine SlAt.row (t := t) (by unfold maxLen; omega) (World.rowIs_alloc w #[.float .f32 x0, .float .f32 x1, .float .f32 x2, .float .f32 x3, .float .f32 x4, .float .f32 x5] t (fun j => .float .f32 (six x0 x1 x2 x3 x4 x5 j)) ?_)
  intro i hi
  match i, hi with
  | 0, _ => rfl
  | 1, _ => rfl
  | 2, _ => rfl
  | 3, _ => rfl
  | 4, _ => rfl
  | 5, _ => rfl
  | n + 6, h => exact absurd h (by simp)
theorem six_wf {x0 x1 x2 x3 x4 x5 : Nat} (h0 : x0 < 2 ^ 32) (h1 : x1 < 2 ^ 32) (h2 : x2 < 2 ^ 32) (h3 : x3 < 2 ^ 32) (h4 : x4 < 2 ^ 32) (h5 : x5 < 2 ^ 32) : ∀ j, six x0 x1 x2 x3 x4 x5 j < 2 ^ 32
  | 0 => h0
  | 1 => h1
  | 2 => h2
  | 3 => h3
  | 4 => h4
  | 5 => h5
  | _ + 6 => by unfold six; simp

section
variable {H : Type} {enc : TypeId × Value → H} {P : Program} {w : World} {base : Nat} {spare : Nat → Bool} {held : Bool}
/-- A struct whose every field is a float32, and has one cell. -/
theorem open_allF {r : Reach} {b0 : Nat} {t : TypeId} {fs : Array Field} {v : Value} {d : DataW H} {p : List MemPlace} (hs : P.underlying t = some (.struct fs)) (hone : oneCellFields P fs = true) (hC : P.cellsOf t = fs.size)
    (T : TypeId) (hT : P.underlying T = some (.float .f32)) (hall : fs.all (fun f => f.type == T) = true) (hv : Value.okWide P w r b0 t v) (h : DataW.Trod enc P w base spare held t v d p) :
    ∃ cs : Array Value, v = .agg cs ∧ cs.size = fs.size ∧ ∀ j, j < fs.size → ∃ b, cs[j]? = some (.float .f32 b) ∧ b < 2 ^ 32 := by
  obtain ⟨cs, rfl, hsz⟩ := okWide_struct hs hv
  obtain ⟨fuel, hx⟩ := h
  obtain ⟨ys, n, -, -, -, hn, hg⟩ := DataW.trod_struct hs hx
  refine ⟨cs, rfl, hsz.trans hC, fun j hj => ?_⟩
  have hjf : fs[j]? = some fs[j] := Array.getElem?_eq_getElem hj
  obtain ⟨o, k⟩ := hone_of hone j _ hjf
  have hcj : j < cs.size := by rw [hsz, hC]; exact hj
  have h1 := hg j _ hjf
  rw [o, k] at h1
  have hd : ((Value.agg cs).cells.toList.drop j).take 1 = [cs[j]] := by
    have hl : (Value.agg cs).cells.toList = cs.toList := by simp [Value.cells]
    rw [hl, List.drop_eq_getElem_cons (by simpa using hcj)]
    simp
  rw [hd] at h1
  obtain ⟨y, hy⟩ : ∃ y, ys[j]? = some y := ⟨_, List.getElem?_eq_getElem (by simpa using (by omega : j < ys.length))⟩
  rw [hy] at h1
  have hty : fs[j].type = T := by simpa using Array.all_eq_true.1 hall j hj
  obtain ⟨b, hb, -, hw⟩ := trod_float (by rw [hty]; exact hT) h1
  exact ⟨b, by rw [Array.getElem?_eq_getElem hcj]; simpa using hb, by simpa [Lit.wf] using hw⟩
end

/-- The tests on numbers, as they read in a walk. -/
def fgt (k : FloatKind) (x y : Option Nat) : Bool := ford k x y == some .gt
def feq (k : FloatKind) (x y : Option Nat) : Bool := ford k x y == some .eq
def fge (k : FloatKind) (x y : Option Nat) : Bool := fgt k x y || feq k x y
def flt (k : FloatKind) (x y : Option Nat) : Bool := ford k x y == some .lt
def fle (k : FloatKind) (x y : Option Nat) : Bool := flt k x y || feq k x y
theorem tst_gt (k : FloatKind) : ∀ x y, (ford k x y == some .gt) = fgt k x y := fun _ _ => rfl
theorem tst_lt (k : FloatKind) : ∀ x y, (ford k x y == some .lt) = flt k x y := fun _ _ => rfl
theorem tst_eq (k : FloatKind) : ∀ x y, (ford k x y == some .eq) = feq k x y := fun _ _ => rfl
theorem fle_of_flt {k : FloatKind} {x y : Option Nat} (h : flt k x y = true) : fle k x y = true := by unfold fle; rw [h]; rfl
theorem fgt_not_flt {k : FloatKind} {x y : Option Nat} (h : fgt k x y = true) : flt k x y = false := by
  unfold fgt at h; unfold flt
  rw [beq_iff_eq] at h; rw [h]; rfl
theorem ford_gt_ge {k : FloatKind} {x y a b : Nat} (ha : cl k x = some a) (hb : cl k y = some b) (h : fge k (some a) (some b) = true) : key k.format b ≤ key k.format a := by
  unfold fge fgt feq at h
  rw [ford_key ha hb] at h
  have e : ∀ a b : Int, compare a b = if a < b then .lt else if a = b then .eq else .gt := fun a b => rfl
  rw [e] at h
  split at h
  · exact absurd h (by decide)
  · omega
theorem ford_lt_le {k : FloatKind} {x y a b : Nat} (ha : cl k x = some a) (hb : cl k y = some b) (h : fle k (some a) (some b) = true) : key k.format a ≤ key k.format b := by
  unfold fle flt feq at h
  rw [ford_key ha hb] at h
  have e : ∀ a b : Int, compare a b = if a < b then .lt else if a = b then .eq else .gt := fun a b => rfl
  rw [e] at h
  split at h
  · omega
  · split at h
    · omega
    · exact absurd h (by decide)
theorem key_fin {k : FloatKind} {b : Nat} (h1 : -(k.format.infRung : Int) < key k.format b) (h2 : key k.format b < k.format.infRung) : isFin k (some b) = true := by
  unfold isFin
  unfold key sg at h1 h2
  refine decide_eq_true ?_
  cases hs : sgn k.format b <;> simp only [hs, if_true, Bool.false_eq_true, if_false] at h1 h2 <;> omega
/-- What lies between two finite numbers is finite. -/
theorem fin_between {k : FloatKind} {x lo hi : Nat} (hl : cl k lo = some lo) (hh : cl k hi = some hi) (k1 : -(k.format.infRung : Int) < key k.format lo) (k2 : key k.format hi < k.format.infRung)
    (h1 : fge k (cl k x) (cl k lo) = true) (h2 : fle k (cl k x) (cl k hi) = true) : isFin k (cl k x) = true := by
  rcases hx : cl k x with _ | a
  · rw [hx] at h1; exact absurd h1 (by unfold fge fgt feq; simp)
  · rw [hx, hl] at h1
    rw [hx, hh] at h2
    have := ford_gt_ge hx hl h1
    have := ford_lt_le hx hh h2
    exact key_fin (by omega) (by omega)

def turnB (c : Option Nat) : Bool := fge .f32 c (cl .f32 0) && flt .f32 c (cl .f32 1065353216)
theorem turnB_fin {x : Nat} (h : turnB (cl .f32 x) = true) : isFin .f32 (cl .f32 x) = true := by
  unfold turnB at h
  rw [Bool.and_eq_true] at h
  exact fin_between (k := .f32) (lo := 0) (hi := 1065353216) (by decide +kernel) (by decide +kernel) (by decide +kernel) (by decide +kernel) h.1 (fle_of_flt h.2)
def ellB (c0 c1 c5 : Option Nat) : Bool := fgt .f32 c0 (cl .f32 0) && fge .f32 c1 (cl .f32 0) && flt .f32 c1 (cl .f32 1065353216) && turnB c5
def braB (c0 c1 c5 : Option Nat) : Bool := flt .f32 c0 (cl .f32 0) && fgt .f32 c1 (cl .f32 1065353216) && fge .f32 c5 (cl .f32 3246391296) && fle .f32 c5 (cl .f32 1098907648)
/-- An orbit is valid: as the reference tests it. -/
def orbS (c0 c1 c2 c3 c4 c5 : Option Nat) : Bool :=
  isFin .f32 c0 && isFin .f32 c1 && (fge .f32 c2 (cl .f32 0) && fle .f32 c2 (cl .f32 1056964608)) && turnB c3 && turnB c4 &&
    (if fgt .f32 c0 (cl .f32 0) = true then fge .f32 c1 (cl .f32 0) && flt .f32 c1 (cl .f32 1065353216) && turnB c5 else braB c0 c1 c5)
/-- .. as the program tests it. -/
def orbI (c0 c1 c2 c3 c4 c5 : Option Nat) : Bool :=
  (isFin .f32 c0 && isFin .f32 c1 && isFin .f32 c2 && isFin .f32 c3 && isFin .f32 c4 && isFin .f32 c5) && fge .f32 c2 (cl .f32 0) && fle .f32 c2 (cl .f32 1056964608) && turnB c3 && turnB c4 && (ellB c0 c1 c5 || braB c0 c1 c5)
theorem orb_same (x0 x1 x2 x3 x4 x5 : Nat) : orbI (cl .f32 x0) (cl .f32 x1) (cl .f32 x2) (cl .f32 x3) (cl .f32 x4) (cl .f32 x5) = orbS (cl .f32 x0) (cl .f32 x1) (cl .f32 x2) (cl .f32 x3) (cl .f32 x4) (cl .f32 x5) := by
  have f2 : fge .f32 (cl .f32 x2) (cl .f32 0) = true → fle .f32 (cl .f32 x2) (cl .f32 1056964608) = true → isFin .f32 (cl .f32 x2) = true :=
    fun h1 h2 => fin_between (k := .f32) (lo := 0) (hi := 1056964608) (by decide +kernel) (by decide +kernel) (by decide +kernel) (by decide +kernel) h1 h2
  have f5 : fge .f32 (cl .f32 x5) (cl .f32 3246391296) = true → fle .f32 (cl .f32 x5) (cl .f32 1098907648) = true → isFin .f32 (cl .f32 x5) = true :=
    fun h1 h2 => fin_between (k := .f32) (lo := 3246391296) (hi := 1098907648) (by decide +kernel) (by decide +kernel) (by decide +kernel) (by decide +kernel) h1 h2
  have f3 := turnB_fin (x := x3)
  have f4 := turnB_fin (x := x4)
  have f6 := turnB_fin (x := x5)
  have f0 := fgt_not_flt (k := .f32) (x := cl .f32 x0) (y := cl .f32 0)
  unfold orbI orbS ellB braB
  generalize fge .f32 (cl .f32 x2) (cl .f32 0) = a1 at *
  generalize fle .f32 (cl .f32 x2) (cl .f32 1056964608) = a2 at *
  generalize fge .f32 (cl .f32 x5) (cl .f32 3246391296) = a3 at *
  generalize fle .f32 (cl .f32 x5) (cl .f32 1098907648) = a4 at *
  generalize turnB (cl .f32 x3) = a5 at *
  generalize turnB (cl .f32 x4) = a6 at *
  generalize turnB (cl .f32 x5) = a7 at *
  generalize fgt .f32 (cl .f32 x0) (cl .f32 0) = a8 at *
  generalize flt .f32 (cl .f32 x0) (cl .f32 0) = a9 at *
  generalize fge .f32 (cl .f32 x1) (cl .f32 0) = b1 at *
  generalize flt .f32 (cl .f32 x1) (cl .f32 1065353216) = b2 at *
  generalize fgt .f32 (cl .f32 x1) (cl .f32 1065353216) = b3 at *
  generalize isFin .f32 (cl .f32 x0) = b4 at *
  generalize isFin .f32 (cl .f32 x1) = b5 at *
  generalize isFin .f32 (cl .f32 x2) = b6 at *
  generalize isFin .f32 (cl .f32 x3) = b7 at *
  generalize isFin .f32 (cl .f32 x4) = b8 at *
  generalize isFin .f32 (cl .f32 x5) = b9 at *
  cases a8
  · cases a3 <;> cases a4 <;> cases a5 <;> cases a6 <;> cases a1 <;> cases a2 <;> simp_all
  · cases a7 <;> cases a5 <;> cases a6 <;> cases a1 <;> cases a2 <;> simp_all
/-- All of a list are finite. -/
def allFin (Z : Nat → Nat) : Nat → Bool
  | 0 => true
  | k + 1 => allFin Z k && isFin .f32 (cl .f32 (Z k))
theorem allFin_false {Z : Nat → Nat} {k : Nat} (h : isFin .f32 (cl .f32 (Z k)) = false) : ∀ n, k < n → allFin Z n = false
  | 0, hk => absurd hk (Nat.not_lt_zero _)
  | n + 1, hk => by
    by_cases e : k = n
    · subst e; simp [allFin, h]
    · simp [allFin, allFin_false h n (by omega)]

theorem arr6 {cs : Array Value} {v0 v1 v2 v3 v4 v5 : Value} (h : cs.size = 6) (h0 : cs[0]? = some v0) (h1 : cs[1]? = some v1) (h2 : cs[2]? = some v2) (h3 : cs[3]? = some v3) (h4 : cs[4]? = some v4) (h5 : cs[5]? = some v5) :
    cs = #[v0, v1, v2, v3, v4, v5] := by
  obtain ⟨l⟩ := cs
  match l, h with
  | [a, b, c, d, e, f], _ => simp at h0 h1 h2 h3 h4 h5; subst h0 h1 h2 h3 h4 h5; rfl

end Go.Fl
