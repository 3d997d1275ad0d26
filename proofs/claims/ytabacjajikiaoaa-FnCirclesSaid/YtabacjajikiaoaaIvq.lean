/- Intervals: quotients; whole parts below. -/
import Derived.Test.YtabacjajikiaoaaItv
namespace Go.Fl
open Ieee Go.RowKit Go.Deep

def sgl (s : Bool) (a b : Nat) : Int := if s then -(b : Int) else a
def sgh (s : Bool) (a b : Nat) : Int := if s then -(a : Int) else b
/-- A number whose magnitude lies between two numbers of units, of a given sign. -/
def Ivs (s : Bool) (c : Option Nat) (a b : Nat) : Prop := Iv .f64 c (sgl s a b) (sgh s a b)
theorem iv_mag {s s1 : Bool} {m : Nat} {p base : Int} {A B : Nat} (hb : base ≤ p) (hb2 : base ≤ FloatKind.f64.format.leastPlace) (rA : A < 9007199254740992) (rB : B < 9007199254740992)
    (h1 : A * 2 ^ (-44 - base).toNat ≤ m * 2 ^ (p - base).toNat) (h2 : m * 2 ^ (p - base).toNat ≤ B * 2 ^ (-44 - base).toNat) (hs : s1 = s ∨ m = 0) :
    Ivs s (some (FloatKind.f64.format.write (.number s1 m p))) A B := by
  have key : sgl s A B * (2 ^ (-44 - base).toNat : Nat) ≤ sg s1 (m * 2 ^ (p - base).toNat) ∧ sg s1 (m * 2 ^ (p - base).toNat) ≤ sgh s A B * (2 ^ (-44 - base).toNat : Nat) := by
    have hz : m = 0 → m * 2 ^ (p - base).toNat = 0 := fun h => by rw [h, Nat.zero_mul]
    generalize m * 2 ^ (p - base).toNat = M at h1 h2 hz ⊢
    generalize (2 ^ (-44 - base).toNat : Nat) = G at h1 h2 ⊢
    have h1' : (A : Int) * G ≤ M := by exact_mod_cast h1
    have h2' : (M : Int) ≤ (B : Int) * G := by exact_mod_cast h2
    unfold sgl sgh sg
    rcases hs with rfl | h0
    · cases s1
      · exact ⟨h1', h2'⟩
      · simp only [if_true, Int.neg_mul]
        exact ⟨by omega, by omega⟩
    · have := hz h0
      subst this
      cases s <;> cases s1 <;> simp only [if_true, if_false, Bool.false_eq_true, Int.neg_mul] <;> exact ⟨by omega, by omega⟩
  refine iv_write .f64 hb hb2 (rep64 ?_) (rep64 ?_) key.1 key.2
  · unfold sgl; cases s <;> simp <;> omega
  · unfold sgh; cases s <;> simp <;> omega
theorem ivs_mag {s : Bool} {x a b : Nat} (h1 : sgl s a b * gz .f64 ≤ vz .f64 x) (h2 : vz .f64 x ≤ sgh s a b * gz .f64) :
    a * gz .f64 ≤ val FloatKind.f64.format (rung FloatKind.f64.format x) ∧ val FloatKind.f64.format (rung FloatKind.f64.format x) ≤ b * gz .f64 ∧ (sgn FloatKind.f64.format x = s ∨ val FloatKind.f64.format (rung FloatKind.f64.format x) = 0) := by
  unfold vz at h1 h2
  generalize val FloatKind.f64.format (rung FloatKind.f64.format x) = M at h1 h2 ⊢
  generalize sgn FloatKind.f64.format x = s1 at h1 h2 ⊢
  generalize gz .f64 = G at h1 h2 ⊢
  have p1 : (0 : Int) ≤ (a : Int) * G := Int.mul_nonneg (Int.natCast_nonneg _) (Int.natCast_nonneg _)
  have p2 : (0 : Int) ≤ (b : Int) * G := Int.mul_nonneg (Int.natCast_nonneg _) (Int.natCast_nonneg _)
  have k : ((a : Int) * G ≤ M ∧ (M : Int) ≤ (b : Int) * G) ∧ (s1 = s ∨ M = 0) := by
    unfold sgl sgh sg at *
    cases s <;> cases s1 <;> simp only [if_true, if_false, Bool.false_eq_true, Int.neg_mul] at h1 h2 <;> refine ⟨⟨by omega, by omega⟩, ?_⟩ <;> first | exact .inl rfl | exact .inr (by omega)
  exact ⟨by exact_mod_cast k.1.1, by exact_mod_cast k.1.2, k.2⟩
theorem Ivs.quo {s : Bool} {c d : Option Nat} {a b e f A B : Nat} (hc : Ivs s c a b) (hd : Ivs false d e f) (he : 0 < e) (hA : A * f ≤ a * 17592186044416) (hB : b * 17592186044416 ≤ B * e) (h8 : b ≤ 8 * e) (rA : A < 9007199254740992) (rB : B < 9007199254740992) :
    Ivs s (fop .quo .f64 c d) A B := by
  obtain ⟨x, rfl, hx, x1, x2⟩ := hc
  obtain ⟨y, rfl, hy, y1, y2⟩ := hd
  obtain ⟨a1, a2, a3⟩ := ivs_mag x1 x2
  obtain ⟨b1, b2, b3⟩ := ivs_mag y1 y2
  obtain ⟨m, i, e1, hi, v1, hm⟩ := read_fin FloatKind.f64.format hx
  obtain ⟨n, j, e2, hj, v2, -⟩ := read_fin FloatKind.f64.format hy
  rw [← v1] at a1 a2 a3
  rw [← v2] at b1 b2 b3
  have hg : 0 < gz .f64 := Nat.two_pow_pos _
  have hn0 : n ≠ 0 := by
    intro h; subst h
    rw [Nat.zero_mul] at b1
    have := Nat.mul_pos he hg
    omega
  have ht : sgn FloatKind.f64.format y = false := by
    rcases b3 with h | h
    · exact h
    · have := Nat.mul_pos he hg; omega
  have hlp := lp_lpn .f64
  have h44 : 44 ≤ lpn .f64 := by decide
  show Ivs s (FloatKind.f64.format.div x y) A B
  unfold Format.div
  rw [e1, e2, ht, quot_num _ _ _ _ _ _ _ hn0]
  show Ivs s (some (FloatKind.f64.format.write _)) A B
  rw [show FloatKind.f64.format.fractionBits + 2 = 54 by decide, Nat.shiftLeft_eq, Bool.xor_false]
  obtain ⟨α, hα⟩ : ∃ α, α = (j - FloatKind.f64.format.leastPlace).toNat := ⟨_, rfl⟩
  obtain ⟨β, hβ⟩ : ∃ β, β = (i - FloatKind.f64.format.leastPlace).toNat := ⟨_, rfl⟩
  rw [← hβ] at a1 a2 a3
  rw [← hα] at b1 b2 b3
  have hs : sgn FloatKind.f64.format x = s ∨ m = 0 := by
    rcases a3 with h | h
    · exact .inl h
    · exact .inr ((Nat.mul_eq_zero.1 h).resolve_right (Nat.ne_of_gt (Nat.two_pow_pos _)))
  generalize gz .f64 = g at a1 a2 b1 b2 hg
  by_cases hm0 : m = 0
  · subst hm0
    have hA0 : A = 0 := by
      have h0 : a = 0 := by
        rw [Nat.zero_mul] at a1
        exact (Nat.mul_eq_zero.1 (Nat.le_zero.1 a1)).resolve_right (Nat.ne_of_gt hg)
      subst h0
      rw [Nat.zero_mul] at hA
      have hf : f ≠ 0 := by
        intro h; subst h
        rw [Nat.zero_mul] at b2
        have := Nat.mul_pos he hg
        omega
      exact (Nat.mul_eq_zero.1 (Nat.le_zero.1 hA)).resolve_right hf
    subst hA0
    rw [Nat.zero_mul, Nat.zero_div, Nat.zero_mod]
    show Ivs s (some (FloatKind.f64.format.write (.number _ 0 _))) 0 B
    refine iv_mag (base := -(((j - i).toNat + 54 + n.log2 + 1 + 1074 + j.toNat + i.natAbs + j.natAbs + lpn .f64 : Nat) : Int)) (by rw [show Nat.log2 0 = 0 by decide]; omega) (by omega) (by decide) rB (by rw [Nat.zero_mul]; exact Nat.zero_le _) (by rw [Nat.zero_mul]; exact Nat.zero_le _) (.inr rfl)
  have hxl : m.log2 ≤ 52 := by
    have hb : m < 2 ^ 53 := by rw [show (2 ^ 53 : Nat) = 2 * FloatKind.f64.format.binade by decide]; exact hm
    have := (Nat.log2_lt hm0).2 hb
    omega
  -- how great the quotient is
  have hw : m.log2 + β ≤ n.log2 + 3 + α := by
    have q1 : 2 ^ (m.log2 + β) ≤ m * 2 ^ β := by rw [Nat.pow_add]; exact Nat.mul_le_mul_right _ (Nat.log2_self_le hm0)
    have q2 : m * 2 ^ β ≤ 8 * (n * 2 ^ α) := by
      refine Nat.le_trans a2 (Nat.le_trans (Nat.mul_le_mul_right g h8) ?_)
      rw [Nat.mul_assoc]
      exact Nat.mul_le_mul_left 8 b1
    have q3 : 8 * (n * 2 ^ α) < 2 ^ (n.log2 + 4 + α) := by
      have : n < 2 ^ (n.log2 + 1) := Nat.lt_log2_self
      rw [show n.log2 + 4 + α = 3 + (n.log2 + 1) + α by omega, Nat.pow_add, Nat.pow_add, Nat.mul_assoc]
      exact Nat.mul_lt_mul_of_pos_left ((Nat.mul_lt_mul_right (Nat.two_pow_pos _)).2 this) (by decide)
    have := (Nat.pow_lt_pow_iff_right (a := 2) (by decide)).1 (Nat.lt_of_le_of_lt q1 (Nat.lt_of_le_of_lt q2 q3))
    omega
  obtain ⟨M, hM⟩ : ∃ M, M = 54 + n.log2 - m.log2 := ⟨_, rfl⟩
  rw [← hM]
  obtain ⟨κ, hκ⟩ : ∃ κ : Nat, κ + β + 44 = M + α := ⟨M + α - β - 44, by omega⟩
  have lo : A * 2 ^ κ ≤ m * 2 ^ M / n := by
    rw [Nat.le_div_iff_mul_le (Nat.pos_of_ne_zero hn0)]
    have k1 : A * (n * 2 ^ α) ≤ 17592186044416 * (m * 2 ^ β) := by
      refine Nat.le_of_mul_le_mul_right ?_ hg
      calc A * (n * 2 ^ α) * g ≤ A * (f * g) * g := Nat.mul_le_mul_right _ (Nat.mul_le_mul_left _ b2)
        _ = A * f * (g * g) := by simp only [Nat.mul_assoc]
        _ ≤ a * 17592186044416 * (g * g) := Nat.mul_le_mul_right _ hA
        _ = 17592186044416 * (a * g) * g := by simp only [Nat.mul_assoc, Nat.mul_left_comm]
        _ ≤ 17592186044416 * (m * 2 ^ β) * g := Nat.mul_le_mul_right _ (Nat.mul_le_mul_left _ a1)
    refine Nat.le_of_mul_le_mul_right ?_ (Nat.two_pow_pos (β + 44))
    have k2 := Nat.mul_le_mul_right (2 ^ M) k1
    calc A * 2 ^ κ * n * 2 ^ (β + 44) = A * (n * 2 ^ α) * 2 ^ M := by
          have : (2 : Nat) ^ κ * 2 ^ (β + 44) = 2 ^ α * 2 ^ M := by rw [← Nat.pow_add, ← Nat.pow_add]; congr 1; omega
          calc A * 2 ^ κ * n * 2 ^ (β + 44) = A * n * (2 ^ κ * 2 ^ (β + 44)) := by simp only [Nat.mul_assoc, Nat.mul_left_comm]
            _ = _ := by rw [this]; simp only [Nat.mul_assoc]
      _ ≤ 17592186044416 * (m * 2 ^ β) * 2 ^ M := k2
      _ = m * 2 ^ M * 2 ^ (β + 44) := by
          rw [Nat.pow_add, show (2 : Nat) ^ 44 = 17592186044416 by decide]
          simp only [Nat.mul_assoc, Nat.mul_left_comm, Nat.mul_comm]
  have hi2 : m * 2 ^ M ≤ B * 2 ^ κ * n := by
    have k1 : 17592186044416 * (m * 2 ^ β) ≤ B * (n * 2 ^ α) := by
      refine Nat.le_of_mul_le_mul_right ?_ hg
      calc 17592186044416 * (m * 2 ^ β) * g ≤ 17592186044416 * (b * g) * g := Nat.mul_le_mul_right _ (Nat.mul_le_mul_left _ a2)
        _ = b * 17592186044416 * (g * g) := by simp only [Nat.mul_assoc, Nat.mul_left_comm]
        _ ≤ B * e * (g * g) := Nat.mul_le_mul_right _ hB
        _ = B * (e * g) * g := by simp only [Nat.mul_assoc]
        _ ≤ B * (n * 2 ^ α) * g := Nat.mul_le_mul_right _ (Nat.mul_le_mul_left _ b1)
    refine Nat.le_of_mul_le_mul_right ?_ (Nat.two_pow_pos (β + 44))
    have k2 := Nat.mul_le_mul_right (2 ^ M) k1
    calc m * 2 ^ M * 2 ^ (β + 44) = 17592186044416 * (m * 2 ^ β) * 2 ^ M := by
          rw [Nat.pow_add, show (2 : Nat) ^ 44 = 17592186044416 by decide]
          simp only [Nat.mul_assoc, Nat.mul_left_comm, Nat.mul_comm]
      _ ≤ B * (n * 2 ^ α) * 2 ^ M := k2
      _ = B * 2 ^ κ * n * 2 ^ (β + 44) := by
          have : (2 : Nat) ^ κ * 2 ^ (β + 44) = 2 ^ α * 2 ^ M := by rw [← Nat.pow_add, ← Nat.pow_add]; congr 1; omega
          calc B * (n * 2 ^ α) * 2 ^ M = B * n * (2 ^ α * 2 ^ M) := by simp only [Nat.mul_assoc]
            _ = _ := by rw [← this]; simp only [Nat.mul_assoc, Nat.mul_left_comm]
  generalize m * 2 ^ M = D at lo hi2 ⊢
  -- the digits and what is left over
  have d1 : 2 * (A * 2 ^ κ) ≤ 2 * (D / n) + (D % n != 0).toNat := Nat.le_trans (Nat.mul_le_mul_left 2 lo) (Nat.le_add_right _ _)
  have d2 : 2 * (D / n) + (D % n != 0).toNat ≤ 2 * (B * 2 ^ κ) := by
    have hdm := Nat.div_add_mod D n
    rcases Nat.eq_zero_or_pos (D % n) with h | h
    · rw [h] at hdm ⊢
      have : D / n ≤ B * 2 ^ κ := Nat.div_le_of_le_mul (by rw [Nat.mul_comm]; exact hi2)
      show 2 * (D / n) + 0 ≤ _
      omega
    · have : D / n < B * 2 ^ κ := by
        refine Nat.lt_of_mul_lt_mul_left (a := n) ?_
        rw [Nat.mul_comm n (B * 2 ^ κ)]
        omega
      have h1 := Bool.toNat_le (D % n != 0)
      omega
  generalize 2 * (D / n) + (D % n != 0).toNat = Q at d1 d2 ⊢
  refine iv_mag (base := -((κ + 45 + lpn .f64 + M + i.natAbs + j.natAbs : Nat) : Int)) (by omega) (by omega) rA rB ?_ ?_ (hs.imp id (fun h => absurd h hm0))
  · have e3 : A * 2 ^ (-44 - -((κ + 45 + lpn .f64 + M + i.natAbs + j.natAbs : Nat) : Int)).toNat = 2 * (A * 2 ^ κ) * 2 ^ (i - j - (M : Int) - 1 - -((κ + 45 + lpn .f64 + M + i.natAbs + j.natAbs : Nat) : Int)).toNat := by
      rw [show (-44 - -((κ + 45 + lpn .f64 + M + i.natAbs + j.natAbs : Nat) : Int)).toNat = 1 + κ + (i - j - (M : Int) - 1 - -((κ + 45 + lpn .f64 + M + i.natAbs + j.natAbs : Nat) : Int)).toNat by omega, Nat.pow_add, Nat.pow_add, Nat.pow_one]
      simp only [Nat.mul_assoc, Nat.mul_left_comm]
    rw [e3]
    exact Nat.mul_le_mul_right _ d1
  · have e3 : B * 2 ^ (-44 - -((κ + 45 + lpn .f64 + M + i.natAbs + j.natAbs : Nat) : Int)).toNat = 2 * (B * 2 ^ κ) * 2 ^ (i - j - (M : Int) - 1 - -((κ + 45 + lpn .f64 + M + i.natAbs + j.natAbs : Nat) : Int)).toNat := by
      rw [show (-44 - -((κ + 45 + lpn .f64 + M + i.natAbs + j.natAbs : Nat) : Int)).toNat = 1 + κ + (i - j - (M : Int) - 1 - -((κ + 45 + lpn .f64 + M + i.natAbs + j.natAbs : Nat) : Int)).toNat by omega, Nat.pow_add, Nat.pow_add, Nat.pow_one]
      simp only [Nat.mul_assoc, Nat.mul_left_comm]
    rw [e3]
    exact Nat.mul_le_mul_right _ d2
/-! Whole parts below. -/
theorem cut_down_true (n d : Nat) : n ≤ Toward.down.cut true n d * 2 ^ d ∧ Toward.down.cut true n d * 2 ^ d < n + 2 ^ d := by
  unfold Toward.cut
  simp only [Bool.true_and, Nat.one_shiftLeft]
  rcases Nat.le_total d (n.log2 + 2) with h | h
  · rw [Nat.min_eq_left h]
    have hdm := Nat.div_add_mod n (2 ^ d)
    have hlt := Nat.mod_lt n (Nat.two_pow_pos d)
    generalize n / 2 ^ d = q at hdm ⊢
    generalize n % 2 ^ d = r at hdm hlt ⊢
    generalize 2 ^ d = g at hdm hlt ⊢
    subst hdm
    rcases Nat.eq_zero_or_pos r with h0 | h0
    · subst h0
      show g * q + 0 ≤ (q + 0) * g ∧ (q + 0) * g < g * q + 0 + g
      simp only [Nat.add_zero]
      rw [Nat.mul_comm q g]; omega
    · have e : (r != 0).toNat = 1 := by rw [show (r != 0) = true by simp; omega]; rfl
      rw [e, Nat.add_mul, Nat.one_mul, Nat.mul_comm q g]; omega
  · rw [Nat.min_eq_right h]
    have h1 : n < 2 ^ (n.log2 + 1) := Nat.lt_log2_self
    have h2 : 2 ^ (n.log2 + 1) ≤ 2 ^ (n.log2 + 2) := Nat.pow_le_pow_right (by decide) (by omega)
    have h3 : 2 ^ (n.log2 + 2) ≤ 2 ^ d := Nat.pow_le_pow_right (by decide) h
    rw [Nat.div_eq_of_lt (by omega), Nat.mod_eq_of_lt (by omega)]
    rcases Nat.eq_zero_or_pos n with h0 | h0
    · have hd := Nat.two_pow_pos d
      rw [h0]
      show 0 ≤ (0 + 0) * 2 ^ d ∧ (0 + 0) * 2 ^ d < 0 + 2 ^ d
      omega
    · have e : (n != 0).toNat = 1 := by rw [show (n != 0) = true by simp; omega]; rfl
      rw [e, Nat.zero_add, Nat.one_mul]; omega
theorem cut_down_false (n d : Nat) : Toward.down.cut false n d = n / 2 ^ d := by
  rw [← cut_zero false n d]
  unfold Toward.cut
  simp
/-- The whole part below a number of units. -/
theorem floor_bounds {x : Nat} (hx : rung FloatKind.f64.format x < FloatKind.f64.format.infRung) :
    ∃ s N, (FloatKind.f64.format.read x).integral .down = .number s N 0 ∧ sg s N * (2 ^ lpn .f64 : Nat) ≤ vz .f64 x ∧ vz .f64 x < (sg s N + 1) * (2 ^ lpn .f64 : Nat) := by
  obtain ⟨m, p, e, hp, hv, -⟩ := vz_read .f64 hx
  rw [e]
  refine ⟨_, _, rfl, ?_⟩
  rw [← hv]
  rw [lp_lpn] at hp ⊢
  generalize sgn FloatKind.f64.format x = s
  have hpos : (0 : Int) < ((2 ^ lpn .f64 : Nat) : Int) := by exact_mod_cast Nat.two_pow_pos _
  rw [show (p - -(lpn .f64 : Int)).toNat = (p + lpn .f64).toNat by omega]
  generalize lpn FloatKind.f64 = L at hp hpos ⊢
  rw [Nat.shiftLeft_eq]
  cases s
  · rw [cut_down_false]
    have h := whole_scaled (m := m) (L := L) (p := p) hp
    unfold whole at h
    show ((m * 2 ^ p.toNat / 2 ^ (-p).toNat : Nat) : Int) * _ ≤ ((m * 2 ^ (p + L).toNat : Nat) : Int) ∧ ((m * 2 ^ (p + L).toNat : Nat) : Int) < (((m * 2 ^ p.toNat / 2 ^ (-p).toNat : Nat) : Int) + 1) * _
    exact ⟨by exact_mod_cast h.1, by exact_mod_cast h.2⟩
  · have h := cut_down_true (m * 2 ^ p.toNat) (-p).toNat
    generalize Toward.down.cut true (m * 2 ^ p.toNat) (-p).toNat = N at h ⊢
    have h2 : m * 2 ^ (p + L).toNat ≤ N * 2 ^ L ∧ N * 2 ^ L < m * 2 ^ (p + L).toNat + 2 ^ L := by
      have e1 : m * 2 ^ p.toNat * 2 ^ (L - (-p).toNat) = m * 2 ^ (p + L).toNat := by
        rw [Nat.mul_assoc, ← Nat.pow_add]; congr 2; omega
      have e2 : (2 : Nat) ^ (-p).toNat * 2 ^ (L - (-p).toNat) = 2 ^ L := by
        rw [← Nat.pow_add]; congr 1; omega
      rw [← e1, ← e2, ← Nat.mul_assoc]
      refine ⟨Nat.mul_le_mul_right _ h.1, ?_⟩
      rw [← Nat.add_mul]
      exact Nat.mul_lt_mul_of_pos_right h.2 (Nat.two_pow_pos _)
    show -((N : Nat) : Int) * _ ≤ -((m * 2 ^ (p + L).toNat : Nat) : Int) ∧ -((m * 2 ^ (p + L).toNat : Nat) : Int) < (-((N : Nat) : Int) + 1) * _
    have g1 : ((m * 2 ^ (p + L).toNat : Nat) : Int) ≤ (N : Int) * ((2 ^ L : Nat) : Int) := by exact_mod_cast h2.1
    have g2 : (N : Int) * ((2 ^ L : Nat) : Int) < ((m * 2 ^ (p + L).toNat : Nat) : Int) + ((2 ^ L : Nat) : Int) := by exact_mod_cast h2.2
    rw [Int.neg_mul, Int.add_mul, Int.one_mul, Int.neg_mul]
    omega
theorem floI_bounds {y : Option Nat} {lo hi A B : Int} (h : Iv .f64 y lo hi) (h1 : A * 17592186044416 ≤ lo) (h2 : hi < (B + 1) * 17592186044416) (hA : A.natAbs < 1000000) (hB : B.natAbs < 1000000) : A ≤ floI y ∧ floI y ≤ B := by
  obtain ⟨x, rfl, hx, x1, x2⟩ := h
  obtain ⟨s, N, e, n1, n2⟩ := floor_bounds hx
  have hg := gz_pos .f64
  have hG : ((2 ^ lpn .f64 : Nat) : Int) = 17592186044416 * (gz .f64 : Int) := by
    have : (2 ^ lpn .f64 : Nat) = 17592186044416 * gz .f64 := by
      unfold gz
      rw [show (17592186044416 : Nat) = 2 ^ 44 by decide, ← Nat.pow_add]
      congr 1
    rw [this, Int.natCast_mul]; rfl
  rw [hG] at n1 n2
  have q1 : A ≤ sg s N := by
    have k1 := Int.mul_le_mul_of_nonneg_right h1 (Int.le_of_lt hg)
    rw [Int.mul_assoc] at k1
    have k2 : A * (17592186044416 * (gz .f64 : Int)) < (sg s N + 1) * (17592186044416 * (gz .f64 : Int)) := by omega
    have := Int.lt_of_mul_lt_mul_right k2 (by omega)
    omega
  have q2 : sg s N ≤ B := by
    have k1 := Int.mul_lt_mul_of_pos_right h2 hg
    rw [Int.mul_assoc] at k1
    have k2 : sg s N * (17592186044416 * (gz .f64 : Int)) < (B + 1) * (17592186044416 * (gz .f64 : Int)) := by omega
    have := Int.lt_of_mul_lt_mul_right k2 (by omega)
    omega
  have hz : IsZ .f64 (some (FloatKind.f64.format.write (.number s N 0))) (sg s N) := by
    refine isZ_write .f64 (base := FloatKind.f64.format.leastPlace) (by decide) (Int.le_refl _) ?_ (roomy64 (by omega))
    rw [sg_mulN, show (0 - FloatKind.f64.format.leastPlace).toNat = (-FloatKind.f64.format.leastPlace).toNat by omega]
  have hf : floI (some x) = sg s N := by
    have h3 : fint .down (some x) = some (FloatKind.f64.format.write (.number s N 0)) := by rw [fint_some, e]
    rw [floI_some h3]
    unfold toI
    rw [isZ_toInt (k := .f64) hz]
    rfl
  rw [hf]
  exact ⟨q1, q2⟩

end Go.Fl
