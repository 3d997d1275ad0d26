/- Intervals: a rounded sum, difference, product or quotient lies between two numbers of the format when the exact one does. Units: 2 ^ -44. -/
import Derived.Test.YtabacjajikiaoaaExa
namespace Go.Fl
open Ieee Go.RowKit Go.Deep

/-- A word's number, in units of the format's least place. -/
def vz (k : FloatKind) (b : Nat) : Int := sg (sgn k.format b) (val k.format (rung k.format b))
def gz (k : FloatKind) : Nat := 2 ^ (lpn k - 44)
theorem gz_pos (k : FloatKind) : (0 : Int) < (gz k : Int) := by unfold gz; exact_mod_cast Nat.two_pow_pos _
/-- The class of a word whose number lies between two numbers of units. -/
def Iv (k : FloatKind) (c : Option Nat) (lo hi : Int) : Prop := ∃ b, c = some b ∧ rung k.format b < k.format.infRung ∧ lo * gz k ≤ vz k b ∧ vz k b ≤ hi * gz k
/-- A number of units that the format has. -/
def Rep (k : FloatKind) (n : Int) : Prop := ∃ R, R < k.format.infRung ∧ val k.format R = n.natAbs * gz k
theorem rep_near (k : FloatKind) {m n : Nat} {p : Int} (hm : m < 2 * k.format.binade) (h0 : m ≠ 0) (hp : k.format.leastPlace ≤ p) (hx : p + m.log2 - k.format.fractionBits - k.format.leastPlace + 3 ≤ 2 ^ k.format.exponentBits) (h : m * 2 ^ (p - k.format.leastPlace).toNat = n * gz k) : ∃ R, R < k.format.infRung ∧ val k.format R = n * gz k := by
  have := near_val k.format h0 hm hp hx (by cases k <;> decide)
  exact ⟨_, this.2, by rw [this.1, h]⟩
theorem rep64 {n : Int} (h : n.natAbs < 9007199254740992) : Rep .f64 n := by
  by_cases h0 : n.natAbs = 0
  · exact ⟨0, by decide, by rw [h0, val_zero, Nat.zero_mul]⟩
  · have hlog : n.natAbs.log2 < 53 := (Nat.log2_lt h0).2 h
    refine rep_near .f64 (m := n.natAbs) (p := -44) h h0 (by decide) ?_ ?_
    · rw [lp_lpn]
      show (-44 : Int) + n.natAbs.log2 - ((52 : Nat) : Int) - -((1074 : Nat) : Int) + 3 ≤ 2048
      omega
    · rw [lp_lpn]
      unfold gz
      congr 2
theorem rep32 {n m : Int} (e : n = m * 4194304) (h : m.natAbs < 16777216) : Rep .f32 n := by
  by_cases h0 : m.natAbs = 0
  · exact ⟨0, by decide, by rw [e, Int.natAbs_mul, h0, val_zero, Nat.zero_mul, Nat.zero_mul]⟩
  · have hlog : m.natAbs.log2 < 24 := (Nat.log2_lt h0).2 h
    refine rep_near .f32 (m := m.natAbs) (p := -22) h h0 (by decide) ?_ ?_
    · rw [lp_lpn]
      show (-22 : Int) + m.natAbs.log2 - ((23 : Nat) : Int) - -((149 : Nat) : Int) + 3 ≤ 256
      omega
    · rw [lp_lpn, e, Int.natAbs_mul, Nat.mul_assoc]; rfl
theorem iv_write (k : FloatKind) {s : Bool} {m : Nat} {p base lo hi : Int} (hb : base ≤ p) (hb2 : base ≤ k.format.leastPlace) (r1 : Rep k lo) (r2 : Rep k hi)
    (h1 : lo * (2 ^ (-44 - base).toNat : Nat) ≤ sg s (m * 2 ^ (p - base).toNat)) (h2 : sg s (m * 2 ^ (p - base).toNat) ≤ hi * (2 ^ (-44 - base).toNat : Nat)) :
    Iv k (some (k.format.write (.number s m p))) lo hi := by
  obtain ⟨R1, i1, v1⟩ := r1
  obtain ⟨R2, i2, v2⟩ := r2
  have hlp := lp_lpn k
  have h44 : 44 ≤ lpn k := by cases k <;> decide
  have hexp : ∀ X : Nat, X * gz k * 2 ^ (k.format.leastPlace - base).toNat = X * 2 ^ (-44 - base).toNat := fun X => by
    unfold gz
    rw [Nat.mul_assoc, ← Nat.pow_add]
    congr 2; omega
  have hup : ∀ {R : Nat}, m * 2 ^ (p - base).toNat ≤ val k.format R * 2 ^ (k.format.leastPlace - base).toNat → nearRung k.format m p ≤ R := fun h => near_le k.format hb hb2 h
  have hlo : ∀ {R : Nat}, R < k.format.infRung → val k.format R * 2 ^ (k.format.leastPlace - base).toNat ≤ m * 2 ^ (p - base).toNat → R ≤ nearRung k.format m p := fun hR h => le_near k.format hb hb2 (Nat.le_of_lt hR) h
  show Iv k (some (k.format.nearest s m p)) lo hi
  rw [nearest_eq]
  have hri : nearRung k.format m p ≤ k.format.infRung := by
    unfold nearRung
    split
    · exact Nat.zero_le _
    · exact Nat.min_le_right _ _
  obtain ⟨w1, w2⟩ := sgn_word k s hri
  have hg := gz_pos k
  have hpos : (0 : Int) < (2 ^ (-44 - base).toNat : Nat) := by exact_mod_cast Nat.two_pow_pos _
  unfold Iv vz
  refine ⟨_, rfl, ?_⟩
  rw [w1, w2]
  generalize nearRung k.format m p = r at hup hlo
  generalize m * 2 ^ (p - base).toNat = M at h1 h2 hup hlo
  generalize (2 ^ (-44 - base).toNat : Nat) = G at h1 h2 hexp hpos
  generalize gz k = g at *
  have mulN : ∀ (X : Int) (Y : Nat), 0 ≤ X → X * (Y : Int) = ((X.natAbs * Y : Nat) : Int) := fun X Y h => by rw [Int.natCast_mul, Int.natAbs_of_nonneg h]
  have mulN' : ∀ (X : Int) (Y : Nat), X ≤ 0 → X * (Y : Int) = -((X.natAbs * Y : Nat) : Int) := fun X Y h => by
    rw [Int.natCast_mul, show ((X.natAbs : Nat) : Int) = -X by omega, Int.neg_mul, Int.neg_neg]
  cases s
  · have e : ∀ x : Nat, sg false x = x := fun _ => rfl
    rw [e] at h1 h2 ⊢
    have hhi : 0 ≤ hi := Int.not_lt.1 fun hneg => by have := Int.mul_neg_of_neg_of_pos hneg hpos; omega
    have q2 := hup (R := R2) (by rw [v2, hexp]; rw [mulN _ _ hhi] at h2; exact_mod_cast h2)
    refine ⟨Nat.lt_of_le_of_lt q2 i2, ?_, ?_⟩
    · rcases Int.le_total lo 0 with hl | hl
      · have := Int.mul_nonpos_of_nonpos_of_nonneg hl (Int.le_of_lt hg)
        omega
      · have q1 := hlo i1 (by rw [v1, hexp]; rw [mulN _ _ hl] at h1; exact_mod_cast h1)
        have := val_le k.format q1
        rw [v1] at this
        rw [mulN _ _ hl]
        exact_mod_cast this
    · have := val_le k.format q2
      rw [v2] at this
      rw [mulN _ _ hhi]
      exact_mod_cast this
  · have e : ∀ x : Nat, sg true x = -(x : Int) := fun _ => rfl
    rw [e] at h1 h2 ⊢
    have hlo' : lo ≤ 0 := Int.not_lt.1 fun hneg => by have := Int.mul_pos hneg hpos; omega
    have q1 := hup (R := R1) (by rw [v1, hexp]; rw [mulN' _ _ hlo'] at h1; have : (M : Int) ≤ ((lo.natAbs * G : Nat) : Int) := by omega
                                 exact_mod_cast this)
    refine ⟨Nat.lt_of_le_of_lt q1 i1, ?_, ?_⟩
    · have := val_le k.format q1
      rw [v1] at this
      rw [mulN' _ _ hlo']
      have h3 : ((val k.format r : Nat) : Int) ≤ ((lo.natAbs * g : Nat) : Int) := by exact_mod_cast this
      omega
    · rcases Int.le_total 0 hi with hl | hl
      · have := Int.mul_nonneg hl (Int.le_of_lt hg)
        omega
      · have q2 := hlo i2 (by rw [v2, hexp]; rw [mulN' _ _ hl] at h2; have : ((hi.natAbs * G : Nat) : Int) ≤ (M : Int) := by omega
                              exact_mod_cast this)
        have := val_le k.format q2
        rw [v2] at this
        rw [mulN' _ _ hl]
        have h3 : ((hi.natAbs * g : Nat) : Int) ≤ ((val k.format r : Nat) : Int) := by exact_mod_cast this
        omega
theorem vz_read (k : FloatKind) {b : Nat} (hr : rung k.format b < k.format.infRung) : ∃ m p, k.format.read b = .number (sgn k.format b) m p ∧ k.format.leastPlace ≤ p ∧ sg (sgn k.format b) (m * 2 ^ (p - k.format.leastPlace).toNat) = vz k b ∧ m < 2 * k.format.binade := by
  obtain ⟨m, p, e, hp, hm, hlt⟩ := read_fin k.format hr
  exact ⟨m, p, e, hp, by unfold vz; rw [hm], hlt⟩
theorem sum_vz {k : FloatKind} {s t : Bool} {x y : Nat} {i j : Int} (hi : k.format.leastPlace ≤ i) (hj : k.format.leastPlace ≤ j) :
    ∃ u v p, (Datum.number s x i).sum (.number t y j) = some (.number u v p) ∧ k.format.leastPlace ≤ p ∧ sg u (v * 2 ^ (p - k.format.leastPlace).toNat) = sg s (x * 2 ^ (i - k.format.leastPlace).toNat) + sg t (y * 2 ^ (j - k.format.leastPlace).toNat) := by
  refine ⟨_, _, _, rfl, by omega, ?_⟩
  have hT : (signed s x (i - min i j).toNat + signed t y (j - min i j).toNat) * (2 ^ (min i j - k.format.leastPlace).toNat : Nat) = sg s (x * 2 ^ (i - k.format.leastPlace).toNat) + sg t (y * 2 ^ (j - k.format.leastPlace).toNat) := by
    rw [Int.add_mul, sg_signed, sg_signed, ← sg_mulN, ← sg_mulN, Nat.mul_assoc, Nat.mul_assoc, ← Nat.pow_add, ← Nat.pow_add]
    congr 4 <;> omega
  generalize hX : signed s x (i - min i j).toNat + signed t y (j - min i j).toNat = X at hT
  rw [← hT, sg_mulN]
  congr 1
  refine sg_of (fun h => ?_) (fun h => ?_)
  · rw [if_neg (by omega)]; exact decide_eq_true h
  · rw [if_neg (by omega)]; exact decide_eq_false (by omega)
theorem gz_exp (k : FloatKind) : (2 ^ (-44 - k.format.leastPlace).toNat : Nat) = gz k := by
  have h44 : 44 ≤ lpn k := by cases k <;> decide
  unfold gz
  rw [lp_lpn]
  congr 1; omega
theorem Iv.add {k : FloatKind} {c d : Option Nat} {l1 h1 l2 h2 : Int} (hc : Iv k c l1 h1) (hd : Iv k d l2 h2) (r1 : Rep k (l1 + l2)) (r2 : Rep k (h1 + h2)) : Iv k (fop .add k c d) (l1 + l2) (h1 + h2) := by
  obtain ⟨a, rfl, ha, a1, a2⟩ := hc
  obtain ⟨b, rfl, hb, b1, b2⟩ := hd
  obtain ⟨m, p, e1, hp, v1, -⟩ := vz_read k ha
  obtain ⟨n, q, e2, hq, v2, -⟩ := vz_read k hb
  obtain ⟨u, v, r, e, hr, hv⟩ := sum_vz (s := sgn k.format a) (t := sgn k.format b) (x := m) (y := n) hp hq
  show Iv k (k.format.add a b) _ _
  unfold Format.add
  rw [e1, e2, e]
  refine iv_write k hr (Int.le_refl _) r1 r2 ?_ ?_
  · rw [hv, v1, v2, gz_exp, Int.add_mul]; omega
  · rw [hv, v1, v2, gz_exp, Int.add_mul]; omega
theorem Iv.sub {k : FloatKind} {c d : Option Nat} {l1 h1 l2 h2 : Int} (hc : Iv k c l1 h1) (hd : Iv k d l2 h2) (r1 : Rep k (l1 - h2)) (r2 : Rep k (h1 - l2)) : Iv k (fop .sub k c d) (l1 - h2) (h1 - l2) := by
  obtain ⟨a, rfl, ha, a1, a2⟩ := hc
  obtain ⟨b, rfl, hb, b1, b2⟩ := hd
  obtain ⟨m, p, e1, hp, v1, -⟩ := vz_read k ha
  obtain ⟨n, q, e2, hq, v2, -⟩ := vz_read k hb
  obtain ⟨u, v, r, e, hr, hv⟩ := sum_vz (s := sgn k.format a) (t := !sgn k.format b) (x := m) (y := n) hp hq
  show Iv k (k.format.sub a b) _ _
  unfold Format.sub
  rw [e1, e2]
  show Iv k (((Datum.number _ m p).sum (.number (!sgn k.format b) n q)).map k.format.write) _ _
  rw [e]
  rw [sg_not] at hv
  refine iv_write k hr (Int.le_refl _) r1 r2 ?_ ?_
  · rw [hv, v1, v2, gz_exp, Int.sub_mul]; omega
  · rw [hv, v1, v2, gz_exp, Int.sub_mul]; omega
/-- A product lies between what bounds the products of the bounds. -/
theorem mul_ge {x y a b c d L : Int} (h1 : a ≤ x) (h2 : x ≤ b) (h3 : c ≤ y) (h4 : y ≤ d) (k1 : L ≤ a * c) (k2 : L ≤ a * d) (k3 : L ≤ b * c) (k4 : L ≤ b * d) : L ≤ x * y := by
  rcases Int.le_total 0 y with hy | hy
  · refine Int.le_trans ?_ (Int.mul_le_mul_of_nonneg_right h1 hy)
    rcases Int.le_total 0 a with ha | ha
    · exact Int.le_trans k1 (Int.mul_le_mul_of_nonneg_left h3 ha)
    · exact Int.le_trans k2 (Int.mul_le_mul_of_nonpos_left ha h4)
  · refine Int.le_trans ?_ (Int.mul_le_mul_of_nonpos_right h2 hy)
    rcases Int.le_total 0 b with hb | hb
    · exact Int.le_trans k3 (Int.mul_le_mul_of_nonneg_left h3 hb)
    · exact Int.le_trans k4 (Int.mul_le_mul_of_nonpos_left hb h4)
theorem mul_le' {x y a b c d H : Int} (h1 : a ≤ x) (h2 : x ≤ b) (h3 : c ≤ y) (h4 : y ≤ d) (k1 : a * c ≤ H) (k2 : a * d ≤ H) (k3 : b * c ≤ H) (k4 : b * d ≤ H) : x * y ≤ H := by
  have := mul_ge (x := -x) (y := y) (a := -b) (b := -a) (c := c) (d := d) (L := -H) (by omega) (by omega) h3 h4 (by rw [Int.neg_mul]; omega) (by rw [Int.neg_mul]; omega) (by rw [Int.neg_mul]; omega) (by rw [Int.neg_mul]; omega)
  rw [Int.neg_mul] at this
  omega
theorem Iv.mul {k : FloatKind} {c d : Option Nat} {l1 h1 l2 h2 L H : Int} (hc : Iv k c l1 h1) (hd : Iv k d l2 h2) (r1 : Rep k L) (r2 : Rep k H)
    (k1 : L * 17592186044416 ≤ l1 * l2) (k2 : L * 17592186044416 ≤ l1 * h2) (k3 : L * 17592186044416 ≤ h1 * l2) (k4 : L * 17592186044416 ≤ h1 * h2)
    (m1 : l1 * l2 ≤ H * 17592186044416) (m2 : l1 * h2 ≤ H * 17592186044416) (m3 : h1 * l2 ≤ H * 17592186044416) (m4 : h1 * h2 ≤ H * 17592186044416) : Iv k (fop .mul k c d) L H := by
  obtain ⟨a, rfl, ha, a1, a2⟩ := hc
  obtain ⟨b, rfl, hb, b1, b2⟩ := hd
  obtain ⟨m, p, e1, hp, v1, -⟩ := vz_read k ha
  obtain ⟨n, q, e2, hq, v2, -⟩ := vz_read k hb
  show Iv k (k.format.mul a b) _ _
  unfold Format.mul
  rw [e1, e2]
  show Iv k (some (k.format.write (.number _ (m * n) (p + q)))) _ _
  have hlp := lp_lpn k
  have h44 : 44 ≤ lpn k := by cases k <;> decide
  have hv : sg (sgn k.format a ^^ sgn k.format b) (m * n * 2 ^ (p + q - -((lpn k + lpn k : Nat) : Int)).toNat) = vz k a * vz k b := by
    rw [← v1, ← v2, ← sg_xor]
    congr 1
    rw [show (p + q - -((lpn k + lpn k : Nat) : Int)).toNat = (p - k.format.leastPlace).toNat + (q - k.format.leastPlace).toNat by omega, Nat.pow_add]
    simp only [Nat.mul_assoc, Nat.mul_left_comm]
  have hG : (2 ^ (-44 - -((lpn k + lpn k : Nat) : Int)).toNat : Nat) = 17592186044416 * (gz k * gz k) := by
    unfold gz
    rw [show (17592186044416 : Nat) = 2 ^ 44 by decide, ← Nat.pow_add, ← Nat.pow_add]
    congr 1; omega
  have hg := gz_pos k
  refine iv_write k (base := -((lpn k + lpn k : Nat) : Int)) (by omega) (by omega) r1 r2 ?_ ?_
  · rw [hv, hG]
    have sc : ∀ x y : Int, L * 17592186044416 ≤ x * y → L * ((17592186044416 * (gz k * gz k) : Nat) : Int) ≤ x * gz k * (y * gz k) := fun x y h => by
      have := Int.mul_le_mul_of_nonneg_right h (Int.le_of_lt (Int.mul_pos hg hg))
      rw [Int.natCast_mul, Int.natCast_mul, ← Int.mul_assoc]
      rw [show x * (gz k : Int) * (y * gz k) = x * y * (gz k * gz k) by grind]
      exact this
    exact mul_ge a1 a2 b1 b2 (sc _ _ k1) (sc _ _ k2) (sc _ _ k3) (sc _ _ k4)
  · rw [hv, hG]
    have sc : ∀ x y : Int, x * y ≤ H * 17592186044416 → x * gz k * (y * gz k) ≤ H * ((17592186044416 * (gz k * gz k) : Nat) : Int) := fun x y h => by
      have := Int.mul_le_mul_of_nonneg_right h (Int.le_of_lt (Int.mul_pos hg hg))
      rw [show x * (gz k : Int) * (y * gz k) = x * y * (gz k * gz k) by grind, Int.natCast_mul, Int.natCast_mul, ← Int.mul_assoc H]
      exact this
    exact mul_le' a1 a2 b1 b2 (sc _ _ m1) (sc _ _ m2) (sc _ _ m3) (sc _ _ m4)
theorem Iv.mono {k : FloatKind} {c : Option Nat} {l h l' h' : Int} (hc : Iv k c l h) (h1 : l' ≤ l) (h2 : h ≤ h') : Iv k c l' h' := by
  obtain ⟨b, rfl, hb, b1, b2⟩ := hc
  have hg := Int.le_of_lt (gz_pos k)
  exact ⟨b, rfl, hb, Int.le_trans (Int.mul_le_mul_of_nonneg_right h1 hg) b1, Int.le_trans b2 (Int.mul_le_mul_of_nonneg_right h2 hg)⟩
theorem Iv.le {k : FloatKind} {c : Option Nat} {l h : Int} (hc : Iv k c l h) : l ≤ h := by
  obtain ⟨b, rfl, hb, b1, b2⟩ := hc
  exact Int.le_of_mul_le_mul_right (Int.le_trans b1 b2) (gz_pos k)
theorem Iv.widen {c : Option Nat} {l h : Int} (hc : Iv .f32 c l h) : Iv .f64 (widen c) l h := by
  obtain ⟨b, rfl, hr, b1, b2⟩ := hc
  rw [widen_some (cl_of_rung (k := .f32) (Nat.le_of_lt hr))]
  obtain ⟨h1, h2⟩ := up_val hr
  obtain ⟨w1, w2⟩ := sgn_word .f64 (sgn FloatKind.f32.format b) (Nat.le_of_lt h2)
  have hv : vz .f64 (FloatKind.f64.format.word (sgn FloatKind.f32.format b) (up (rung FloatKind.f32.format b))) = vz .f32 b * (2 ^ lift : Nat) := by
    unfold vz
    rw [w1, w2]
    change sg _ (val Ieee.double (up (rung FloatKind.f32.format b))) = _
    rw [h1, sg_mulN]; rfl
  have hg : (gz .f64 : Int) = gz .f32 * (2 ^ lift : Nat) := by
    have e : gz .f64 = gz .f32 * 2 ^ lift := by
      unfold gz
      rw [← Nat.pow_add]
      congr 1
    rw [e, Int.natCast_mul]
  have hp : (0 : Int) ≤ ((2 ^ lift : Nat) : Int) := Int.natCast_nonneg _
  refine ⟨_, rfl, by rw [w2]; exact h2, ?_, ?_⟩
  · rw [hv, hg, ← Int.mul_assoc]; exact Int.mul_le_mul_of_nonneg_right b1 hp
  · rw [hv, hg, ← Int.mul_assoc]; exact Int.mul_le_mul_of_nonneg_right b2 hp
theorem Iv.narrow {c : Option Nat} {l h : Int} (hc : Iv .f64 c l h) {L H : Int} (h1 : L ≤ l) (h2 : h ≤ H) (r1 : Rep .f32 L) (r2 : Rep .f32 H) : fits c = true ∧ Iv .f32 (narrow c) L H := by
  obtain ⟨b, rfl, hb, b1, b2⟩ := hc.mono h1 h2
  obtain ⟨m, p, e, hp, v, -⟩ := vz_read .f64 hb
  have hz : Iv .f32 (some (FloatKind.f32.format.write (.number (sgn FloatKind.f64.format b) m p))) L H := by
    refine iv_write .f32 hp (by decide) r1 r2 ?_ ?_
    · rw [v, gz_exp]; exact b1
    · rw [v, gz_exp]; exact b2
  constructor
  · unfold fits
    simp only [e]
    obtain ⟨x, hx, hr, -⟩ := hz
    injection hx with hx
    rw [hx]
    obtain ⟨m', p', e', -⟩ := read_fin FloatKind.f32.format hr
    rw [e']; rfl
  · show Iv .f32 (some (FloatKind.f32.format.write (FloatKind.f64.format.read b))) L H
    rw [e]; exact hz
theorem ford_vz {k : FloatKind} {a b : Nat} (ha : rung k.format a < k.format.infRung) (hb : rung k.format b < k.format.infRung) : ford k (some a) (some b) = some (compare (vz k a) (vz k b)) := by
  rw [ford_key (cl_of_rung (Nat.le_of_lt ha)) (cl_of_rung (Nat.le_of_lt hb))]
  unfold key vz
  have mono : ∀ u v : Nat, (u < v ↔ val k.format u < val k.format v) := fun u v =>
    ⟨fun h => val_lt k.format h, fun h => Nat.lt_of_not_le fun h' => by have := val_le k.format h'; omega⟩
  have z : ∀ u : Nat, (u = 0 ↔ val k.format u = 0) := fun u =>
    ⟨fun h => by rw [h, val_zero], fun h => by rcases Nat.eq_zero_or_pos u with h' | h'; exact h'; have := val_lt k.format h'; rw [val_zero] at this; omega⟩
  rw [compare_sg _ _ (mono _ _) (mono _ _) (z _) (z _)]
/-- Below another number. -/
theorem Iv.not_gt {k : FloatKind} {c d : Option Nat} {l h l' h' : Int} (hc : Iv k c l h) (hd : Iv k d l' h') (hh : h ≤ l') : fgt k c d = false ∧ fle k c d = true := by
  obtain ⟨a, rfl, ha, a1, a2⟩ := hc
  obtain ⟨b, rfl, hb, b1, b2⟩ := hd
  have hg := Int.le_of_lt (gz_pos k)
  have := Int.mul_le_mul_of_nonneg_right hh hg
  have hle : vz k a ≤ vz k b := by omega
  unfold fgt fle flt feq
  rw [ford_vz ha hb, compare_int]
  by_cases h1 : vz k a < vz k b
  · rw [if_pos h1]; exact ⟨rfl, rfl⟩
  · rw [if_neg h1, if_pos (by omega)]; exact ⟨rfl, rfl⟩
theorem isZ_iv {k : FloatKind} {c : Option Nat} {n : Int} (h : IsZ k c n) : Iv k c (n * 17592186044416) (n * 17592186044416) := by
  obtain ⟨b, rfl, hr, hv⟩ := h
  have h44 : 44 ≤ lpn k := by cases k <;> decide
  have e : n * 17592186044416 * (gz k : Int) = vz k b := by
    unfold vz gz
    rw [hv, Int.mul_assoc]
    congr 1
    rw [show (17592186044416 : Int) = ((2 ^ 44 : Nat) : Int) by decide, ← Int.natCast_mul, ← Nat.pow_add, show 44 + (lpn k - 44) = lpn k by omega]
    simp
  exact ⟨b, rfl, hr, by omega, by omega⟩
end Go.Fl
