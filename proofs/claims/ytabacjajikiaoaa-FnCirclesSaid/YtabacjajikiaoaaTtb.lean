/- Tenths of decibels of eighths and of their products, for all small integers: a table, and that the kernel's bounds meet it. -/
import Derived.Test.YtabacjajikiaoaaTen
namespace Go.Fl
open Ieee Go.RowKit Go.Deep

def TT : List Int := [-90, -60, -43, -30, -20, -12, -6, 0, 5, 10, 14, 18, 21, 24, 27, 30, 33, 35, 38, 40, 42, 44, 46, 48, 49, 51, 53, 54, 56, 57, 59, 60, 62, 63, 64, 65, 67, 68, 69, 70, 71, 72, 73, 74, 75, 76, 77, 78, 79, 80, 80, 81, 82, 83, 84, 85, 85, 86, 87, 88, 88, 89, 90, 90, 91, 92, 92, 93, 94, 94, 95, 95, 96, 97, 97, 98, 98, 99, 99, 100, 101, 101, 102, 102, 103, 103, 104, 104, 105, 105, 106, 106, 107, 107, 107, 108, 108, 109, 109, 110, 110, 111, 111, 111, 112, 112, 113, 113, 113, 114, 114, 115, 115, 115, 116, 116, 117, 117, 117, 118, 118, 118, 119, 119, 119, 120, 120, 120, 121, 121, 121, 122, 122, 122, 123, 123, 123, 124, 124, 124, 125, 125, 125, 126, 126, 126, 126, 127, 127, 127, 128, 128, 128, 128, 129, 129, 129, 130, 130, 130, 130, 131, 131, 131, 131, 132, 132, 132, 132, 133, 133, 133, 133, 134, 134, 134, 134, 135, 135, 135, 135, 136, 136, 136, 136, 137, 137, 137, 137, 138, 138, 138, 138, 138, 139, 139, 139, 139, 140, 140]
def allJ (i : Nat) (ti : Int) : List Int → Nat → Bool
  | [], _ => true
  | t :: ts, j => pOk 1 (i * j) (ti + t) && allJ i ti ts (j + 1)
def allI : List Int → Nat → Bool
  | [], _ => true
  | t :: ts, i => pOk 0 (8 * i) t && (allJ i t (t :: ts) i && allI ts (i + 1))
theorem tt_all : allI TT 1 = true := by decide +kernel
theorem allJ_get {i : Nat} {ti : Int} : ∀ (L : List Int) (k : Nat), allJ i ti L k = true → ∀ q t, L[q]? = some t → pOk 1 (i * (k + q)) (ti + t) = true
  | [], _, _, q, t, h => by simp at h
  | x :: xs, k, h, q, t, hq => by
    rw [allJ, Bool.and_eq_true] at h
    cases q with
    | zero =>
      simp at hq
      subst hq
      exact h.1
    | succ q =>
      have := allJ_get xs (k + 1) h.2 q t (by simpa using hq)
      rw [show k + (q + 1) = k + 1 + q by omega]
      exact this
theorem allI_get : ∀ (L : List Int) (k : Nat), allI L k = true → ∀ p t, L[p]? = some t → pOk 0 (8 * (k + p)) t = true ∧ ∀ q s, L[p + q]? = some s → pOk 1 ((k + p) * (k + p + q)) (t + s) = true
  | [], _, _, p, t, h => by simp at h
  | x :: xs, k, h, p, t, hp => by
    rw [allI, Bool.and_eq_true, Bool.and_eq_true] at h
    cases p with
    | zero =>
      simp at hp
      subst hp
      refine ⟨h.1, fun q s hq => ?_⟩
      exact allJ_get _ _ h.2.1 q s (by simpa using hq)
    | succ p =>
      have := allI_get xs (k + 1) h.2.2 p t (by simpa using hp)
      rw [show k + (p + 1) = k + 1 + p by omega]
      refine ⟨this.1, fun q s hq => this.2 q s ?_⟩
      rw [show p + 1 + q = (p + q) + 1 by omega] at hq
      simpa using hq
theorem TT_len : TT.length = 200 := by decide +kernel
theorem tens_le {p q : Nat} (hp : p < 200) (hq : q < 200) (hpq : p ≤ q) :
    ∃ m n : Int, tenI (Dn (8 * (1 + p))) = m ∧ tenI (Dn (8 * (1 + q))) = n ∧ m + n - 1 ≤ tenI (Dn ((1 + p) * (1 + q))) ∧ tenI (Dn ((1 + p) * (1 + q))) ≤ m + n + 1 := by
  obtain ⟨m, hm⟩ : ∃ m, TT[p]? = some m := ⟨_, List.getElem?_eq_getElem (by rw [TT_len]; exact hp)⟩
  obtain ⟨n, hn⟩ : ∃ n, TT[q]? = some n := ⟨_, List.getElem?_eq_getElem (by rw [TT_len]; exact hq)⟩
  have a1 := (allI_get TT 1 tt_all p m hm).1
  have a2 := (allI_get TT 1 tt_all q n hn).1
  have a3 := (allI_get TT 1 tt_all p m hm).2 (q - p) n (by rw [show p + (q - p) = q by omega]; exact hn)
  rw [show 1 + p + (q - p) = 1 + q by omega] at a3
  have b1 := ten_n (by omega) (by omega) a1
  have b2 := ten_n (by omega) (by omega) a2
  have h3 : (1 + p) * (1 + q) ≤ 200 * 200 := Nat.mul_le_mul (by omega) (by omega)
  have h4 : 1 * 1 ≤ (1 + p) * (1 + q) := Nat.mul_le_mul (by omega) (by omega)
  have b3 := ten_n (by omega) (by omega) a3
  exact ⟨m, n, by omega, by omega, b3.1, b3.2⟩
/-- Tenths of a product are those of both factors, but for one. -/
theorem tens {p q : Nat} (hp : p < 200) (hq : q < 200) :
    tenI (Dn (8 * (1 + p))) + tenI (Dn (8 * (1 + q))) - tenI (Dn ((1 + p) * (1 + q))) ≤ 1 ∧ tenI (Dn ((1 + p) * (1 + q))) - tenI (Dn (8 * (1 + p))) - tenI (Dn (8 * (1 + q))) ≤ 1 := by
  rcases Nat.le_total p q with h | h
  · obtain ⟨m, n, h1, h2, h3, h4⟩ := tens_le hp hq h
    rw [h1, h2]; omega
  · obtain ⟨m, n, h1, h2, h3, h4⟩ := tens_le hq hp h
    rw [Nat.mul_comm (1 + p), h1, h2]; omega
theorem TT_bound {p : Nat} (hp : p < 200) : -200 ≤ tenI (Dn (8 * (1 + p))) ∧ tenI (Dn (8 * (1 + p))) ≤ 200 := by
  obtain ⟨m, hm⟩ : ∃ m, TT[p]? = some m := ⟨_, List.getElem?_eq_getElem (by rw [TT_len]; exact hp)⟩
  have a1 := (allI_get TT 1 tt_all p m hm).1
  have b1 := ten_n (by omega) (by omega) a1
  have hall : ∀ t ∈ TT, -200 ≤ t ∧ t ≤ 200 := by decide +kernel
  have := hall m (List.mem_of_getElem? hm)
  omega

/-! The numbers. -/
def xq (i : Nat) : Option Nat := fop .quo .f32 (cl .f32 (floatOfInt .f32 (1 + (i : Int)))) (cl .f32 1090519040)
def xqOk (i : Nat) : Bool := match xq i with
  | some b => decide (rung FloatKind.f32.format b < FloatKind.f32.format.infRung) && (sgn FloatKind.f32.format b == false && (val FloatKind.f32.format (rung FloatKind.f32.format b) == (1 + i) * 2 ^ 146 && widen (some b) == some (Dn (8 * (1 + i)))))
  | none => false
theorem xq_all : (List.range 200).all xqOk = true := by decide +kernel
theorem xq_iv {i : Nat} (hi : i < 200) : Iv .f32 (xq i) ((1 + (i : Int)) * 2199023255552) ((1 + (i : Int)) * 2199023255552) ∧ widen (xq i) = some (Dn (8 * (1 + i))) := by
  have h := List.all_eq_true.1 xq_all i (List.mem_range.2 hi)
  unfold xqOk at h
  rcases hx : xq i with _ | b
  · rw [hx] at h; cases h
  rw [hx] at h
  simp only [Bool.and_eq_true, decide_eq_true_eq, beq_iff_eq] at h
  obtain ⟨h1, h2, h3, h4⟩ := h
  have hv : vz .f32 b = (1 + (i : Int)) * 2199023255552 * (gz .f32 : Int) := by
    unfold vz
    rw [h2, h3]
    have e : (1 + i) * 2 ^ 146 = (1 + i) * 2199023255552 * gz .f32 := by
      unfold gz
      rw [Nat.mul_assoc, show (2199023255552 : Nat) = 2 ^ 41 by decide, ← Nat.pow_add]
      congr 1
    show (((1 + i) * 2 ^ 146 : Nat) : Int) = _
    rw [e, Int.natCast_mul, Int.natCast_mul]
    rfl
  exact ⟨⟨b, rfl, h1, by rw [hv]; exact Int.le_refl _, by rw [hv]; exact Int.le_refl _⟩, h4⟩
theorem rep_int (m : Nat) (hm : m < 16777216) (h0 : m ≠ 0) : Rep .f32 ((m : Int) * 274877906944) := by
  have hlog : m.log2 < 24 := (Nat.log2_lt h0).2 hm
  refine rep_near .f32 (m := m) (p := -6) hm h0 (by decide) ?_ ?_
  · rw [lp_lpn]
    show (-6 : Int) + m.log2 - ((23 : Nat) : Int) - -((149 : Nat) : Int) + 3 ≤ 256
    omega
  · have e : (2 : Nat) ^ (-6 - FloatKind.f32.format.leastPlace).toNat = 274877906944 * gz .f32 := by
      unfold gz
      rw [show (274877906944 : Nat) = 2 ^ 38 by decide, ← Nat.pow_add]
      congr 1
    have e2 : ((m : Int) * 274877906944).natAbs = m * 274877906944 := by omega
    have e3 : m * 2 ^ (-6 - FloatKind.f32.format.leastPlace).toNat = m * 274877906944 * gz .f32 := (congrArg (fun x => m * x) e).trans (Nat.mul_assoc _ _ _).symm
    exact e3.trans (congrArg (fun x => x * gz .f32) e2.symm)
theorem xp_iv {i j : Nat} (hi : i < 200) (hj : j < 200) : Iv .f32 (fop .mul .f32 (xq i) (xq j)) ((((1 + i) * (1 + j) : Nat) : Int) * 274877906944) ((((1 + i) * (1 + j) : Nat) : Int) * 274877906944) := by
  have h3 : (1 + i) * (1 + j) ≤ 200 * 200 := Nat.mul_le_mul (by omega) (by omega)
  have h4 : 1 * 1 ≤ (1 + i) * (1 + j) := Nat.mul_le_mul (by omega) (by omega)
  have hr := rep_int ((1 + i) * (1 + j)) (by omega) (by omega)
  have e : (1 + (i : Int)) * 2199023255552 * ((1 + (j : Int)) * 2199023255552) = (((1 + i) * (1 + j) : Nat) : Int) * 274877906944 * 17592186044416 := by
    rw [Int.natCast_mul, Int.natCast_add, Int.natCast_add]
    show _ = (1 + (i : Int)) * (1 + (j : Int)) * 274877906944 * 17592186044416
    grind
  exact (xq_iv hi).1.mul (xq_iv hj).1 hr hr (by omega) (by omega) (by omega) (by omega) (by omega) (by omega) (by omega) (by omega)
theorem Dn_vz {n : Nat} (h1 : 1 ≤ n) (h2 : n ≤ 65535) : vz .f64 (Dn n) = ((n : Int) * 274877906944) * (gz .f64 : Int) ∧ Dn n < 2 ^ 63 ∧ sgn FloatKind.f64.format (Dn n) = false := by
  obtain ⟨hl, m1, m2, -, -⟩ := mant h1 h2
  have hE : n * 2 ^ (52 - n.log2) * 2 ^ (n.log2 + 1016) = n * 274877906944 * gz .f64 := by
    have e : (2 : Nat) ^ (52 - n.log2) * 2 ^ (n.log2 + 1016) = 274877906944 * gz .f64 := by
      unfold gz
      have k3 : 52 - n.log2 + (n.log2 + 1016) = 38 + (lpn .f64 - 44) := by
        clear m1 m2
        have k2 : lpn .f64 = 1074 := rfl
        omega
      have k : (274877906944 : Nat) = 2 ^ 38 := by decide
      rw [k, ← Nat.pow_add, ← Nat.pow_add]
      exact congrArg (fun x => 2 ^ x) k3
    exact (Nat.mul_assoc _ _ _).trans ((congrArg (fun x => n * x) e).trans (Nat.mul_assoc _ _ _).symm)
  unfold Dn
  generalize n.log2 = l at *
  generalize n * 2 ^ (52 - l) = M at *
  have hlt : (l + 1016) * 4503599627370496 + M < 2 ^ 63 := by omega
  have hv := val_parts FloatKind.f64.format (E := l + 1016) (M := M) (by show M < 2 * 2 ^ 52; omega) (fun _ => by show 2 ^ 52 ≤ M; omega)
  have hb : FloatKind.f64.format.binade = 4503599627370496 := by decide
  rw [hb] at hv
  obtain ⟨s1, s2⟩ := pos_word hlt
  refine ⟨?_, hlt, s1⟩
  unfold vz
  rw [s1, s2, hv, hE]
  show ((n * 274877906944 * gz .f64 : Nat) : Int) = _
  rw [Int.natCast_mul, Int.natCast_mul]
  rfl
theorem xp_widen {i j : Nat} (hi : i < 200) (hj : j < 200) : widen (fop .mul .f32 (xq i) (xq j)) = some (Dn ((1 + i) * (1 + j))) := by
  have h3 : (1 + i) * (1 + j) ≤ 200 * 200 := Nat.mul_le_mul (by omega) (by omega)
  have h4 : 1 * 1 ≤ (1 + i) * (1 + j) := Nat.mul_le_mul (by omega) (by omega)
  obtain ⟨d1, d2, d3⟩ := Dn_vz (n := (1 + i) * (1 + j)) (by omega) (by omega)
  obtain ⟨b, hb, hr, b1, b2⟩ := (xp_iv hi hj).widen
  rw [hb]
  have hv : vz .f64 b = vz .f64 (Dn ((1 + i) * (1 + j))) := by rw [d1]; omega
  have hlt : b < 2 ^ 64 := by
    rcases hc : fop .mul .f32 (xq i) (xq j) with _ | x
    · rw [hc] at hb; cases hb
    · rw [hc] at hb
      injection hb with hb
      rw [← hb]
      exact FloatKind.f64.format.write_lt _
  generalize (1 + i) * (1 + j) = n at *
  have hg := gz_pos .f64
  have hpos : 0 < vz .f64 (Dn n) := by rw [d1]; exact Int.mul_pos (by omega) hg
  rw [← hv] at hpos
  have hs : sgn FloatKind.f64.format b = false := by
    unfold vz sg at hpos
    cases hsb : sgn FloatKind.f64.format b
    · rfl
    · rw [hsb] at hpos
      simp only [if_true] at hpos
      omega
  unfold vz at hv
  rw [hs, d3] at hv
  have h1 : val FloatKind.f64.format (rung FloatKind.f64.format b) = val FloatKind.f64.format (rung FloatKind.f64.format (Dn n)) := by
    unfold sg at hv
    simp only [Bool.false_eq_true, if_false] at hv
    omega
  have h2 : rung FloatKind.f64.format b = rung FloatKind.f64.format (Dn n) := by
    rcases Nat.lt_trichotomy (rung FloatKind.f64.format b) (rung FloatKind.f64.format (Dn n)) with h | h | h
    · have := val_lt FloatKind.f64.format h; omega
    · exact h
    · have := val_lt FloatKind.f64.format h; omega
  exact congrArg some (bits_inj (k := .f64) (by rw [sw64]; omega) (by rw [sw64]; omega) (by rw [hs, d3]) h2)
/-- What 'TenthsOf' returns of a number that is greater than nothing. -/
theorem tenR_pos {c : Option Nat} {v w : Int} {d : Nat} (h : Iv .f32 c v w) (hv : 0 < v) (hd : widen c = some d) : tenR c = (tenI d, true) := by
  obtain ⟨b, rfl, hr, b1, -⟩ := h
  have hg := gz_pos .f32
  have hp : 0 < vz .f32 b := Int.lt_of_lt_of_le (Int.mul_pos hv hg) b1
  have h0 : vz .f32 0 = 0 := by decide
  have hf : ford .f32 (some b) (cl .f32 0) = some .gt := by
    rw [cl_zero, ford_vz hr (by decide), h0, compare_int, if_neg (by omega), if_neg (by omega)]
  unfold tenR flt feq
  rw [hf, hd]
  have hfin : isFin .f32 (some b) = true := decide_eq_true hr
  rw [hfin]
  rfl
theorem tenR_x {i : Nat} (hi : i < 200) : tenR (xq i) = (tenI (Dn (8 * (1 + i))), true) := tenR_pos (xq_iv hi).1 (by omega) (xq_iv hi).2
theorem tenR_xp {i j : Nat} (hi : i < 200) (hj : j < 200) : tenR (fop .mul .f32 (xq i) (xq j)) = (tenI (Dn ((1 + i) * (1 + j))), true) := by
  have h4 : 1 * 1 ≤ (1 + i) * (1 + j) := Nat.mul_le_mul (by omega) (by omega)
  exact tenR_pos (xp_iv hi hj) (by omega) (xp_widen hi hj)
/-- 1 has no tenths. -/
theorem tenR_one : tenR (cl .f32 1065353216) = (0, true) := by
  have hx : xq 7 = cl .f32 1065353216 := by decide +kernel
  rw [← hx, tenR_x (by decide)]
  have a1 := (allI_get TT 1 tt_all 7 0 (by decide)).1
  have b1 := ten_n (by decide) (by decide) a1
  have : tenI (Dn (8 * (1 + 7))) = 0 := by omega
  rw [this]
end Go.Fl
