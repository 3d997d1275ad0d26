/- Points of the unit circle: quarters of turns are taken off one by one. -/
import Derived.Test.YtabacjajikiaoaaTur
namespace Go.Fl
open Ieee

def phG (f : Option Nat) : Bool := fgt .f64 f (cl .f64 4598175219545276416) || feq .f64 f (cl .f64 4598175219545276416)
def phF (b : Nat) : Nat → Option Nat
  | 0 => behC b
  | i + 1 => fop .sub .f64 (phF b i) (cl .f64 4598175219545276416)
/-- After j rounds the loop ends. -/
def First (b j : Nat) : Prop := phG (phF b j) = false ∧ ∀ i, i < j → phG (phF b i) = true
theorem First.unique {b j k : Nat} (h : First b j) (h' : First b k) : j = k := by
  rcases Nat.lt_trichotomy j k with g | g | g
  · have := h'.2 j g; rw [h.1] at this; cases this
  · exact g
  · have := h.2 k g; rw [h'.1] at this; cases this

/-- Neighbours lie near one another. -/
theorem val_pred (f : Format) {r a : Nat} (h0 : 1 ≤ r) (hb : 2 ≤ f.binade) (h1 : r < (a + 1) * f.binade) : val f r ≤ val f (r - 1) + 2 ^ a := by
  obtain ⟨E, M, e, hv, hM, hE⟩ := rung_parts f r
  have hEa : E ≤ a := by
    rcases Nat.eq_zero_or_pos E with rfl | h
    · exact Nat.zero_le _
    · have h2 := hE h
      rw [e] at h1
      have h3 : (E + 1) * f.binade < (a + 1) * f.binade + f.binade := by rw [Nat.add_mul, Nat.one_mul]; omega
      rw [Nat.add_mul, Nat.add_mul, Nat.one_mul] at h3
      have h4 : E * f.binade < (a + 1) * f.binade := by rw [Nat.add_mul, Nat.one_mul]; omega
      have := Nat.lt_of_mul_lt_mul_right h4
      omega
  have hp : 2 ^ E ≤ 2 ^ a := Nat.pow_le_pow_right (by decide) hEa
  by_cases hM1 : 0 < E → f.binade ≤ M - 1
  · have hM0 : 1 ≤ M := by
      rcases Nat.eq_zero_or_pos E with h | h
      · rw [h] at e; omega
      · have := hE h; omega
    have h2 := val_parts f (E := E) (M := M - 1) (by omega) hM1
    rw [show r - 1 = E * f.binade + (M - 1) by omega, h2, hv]
    obtain ⟨m, rfl⟩ : ∃ m, M = m + 1 := ⟨M - 1, by omega⟩
    rw [Nat.add_mul, Nat.one_mul, Nat.add_sub_cancel]
    exact Nat.add_le_add_left hp _
  · have hE0 : 0 < E := Nat.pos_of_ne_zero (fun h => hM1 (fun g => by omega))
    have hMb : M = f.binade := by
      have := hE hE0
      have h2 : ¬ f.binade ≤ M - 1 := fun h => hM1 (fun _ => h)
      omega
    obtain ⟨k, rfl⟩ : ∃ k, E = k + 1 := ⟨E - 1, by omega⟩
    have h2 := val_parts f (E := k) (M := 2 * f.binade - 1) (by omega) (fun _ => by omega)
    have e2 : r - 1 = k * f.binade + (2 * f.binade - 1) := by
      rw [e, hMb, Nat.add_mul, Nat.one_mul]; omega
    rw [e2, h2, hv, hMb, Nat.pow_succ]
    have hq : 2 ^ k ≤ 2 ^ a := Nat.pow_le_pow_right (by decide) (by omega)
    obtain ⟨c, hc⟩ : ∃ c, 2 * f.binade = c + 1 := ⟨2 * f.binade - 1, by omega⟩
    have e3 : f.binade * (2 ^ k * 2) = 2 * f.binade * 2 ^ k := by rw [Nat.mul_comm (2 ^ k) 2, ← Nat.mul_assoc, Nat.mul_comm f.binade 2]
    rw [e3, hc, Nat.add_mul, Nat.one_mul, Nat.add_sub_cancel]
    exact Nat.add_le_add_left hq _

theorem pow_le_val (f : Format) {E a c : Nat} (hE : 1 ≤ E) (hb : f.binade = 2 ^ c) (h : a ≤ c + (E - 1)) : 2 ^ a ≤ val f (E * f.binade) := by
  rw [val_pow f hE, hb, ← Nat.pow_add]
  exact Nat.pow_le_pow_right (by decide) h
theorem quarter_word : cl .f64 4598175219545276416 = some 4598175219545276416 ∧ key FloatKind.f64.format 4598175219545276416 = 4598175219545276416 ∧ rung FloatKind.f64.format 4598175219545276416 = 1021 * FloatKind.f64.format.binade ∧ sgn FloatKind.f64.format 4598175219545276416 = false := by decide +kernel
theorem sub_pos (A B : Nat) (h : B ≤ A) : (sg false A + sg (!false) B).natAbs = A - B ∧ (if sg false A + sg (!false) B = 0 then (false && !false) else decide (sg false A + sg (!false) B < 0)) = false := by
  unfold sg
  simp only [Bool.not_false, if_true, Bool.false_eq_true, if_false, Bool.false_and]
  refine ⟨by omega, ?_⟩
  split
  · rfl
  · exact decide_eq_false (by omega)

/-- A quarter less is a lower word. -/
theorem quarter_step {r : Nat} (hc : cl .f64 r = some r) (hr : rung FloatKind.f64.format r ≤ 1024 * 2 ^ 52) (hg : phG (some r) = true) :
    ∃ r', fop .sub .f64 (some r) (cl .f64 4598175219545276416) = some r' ∧ cl .f64 r' = some r' ∧ rung FloatKind.f64.format r' < rung FloatKind.f64.format r := by
  obtain ⟨q1, q2, q3, q4⟩ := quarter_word
  have hk := ford_gt_ge (k := .f64) hc q1 (by rw [← q1]; exact hg)
  rw [q2] at hk
  have hs : sgn FloatKind.f64.format r = false := by
    unfold key sg at hk
    cases h : sgn FloatKind.f64.format r
    · rfl
    · rw [h] at hk; simp at hk; omega
  have hR : 1021 * FloatKind.f64.format.binade ≤ rung FloatKind.f64.format r := by
    unfold key sg at hk
    rw [hs] at hk
    rw [bin64]
    simp at hk
    omega
  have hf : rung FloatKind.f64.format r < FloatKind.f64.format.infRung := Nat.lt_of_le_of_lt hr (by rw [inf64]; decide)
  obtain ⟨m, p, e, hp, hv, -⟩ := read_fin FloatKind.f64.format hf
  obtain ⟨n, q, e2, hq, hv2, -⟩ := read_fin FloatKind.f64.format (b := 4598175219545276416) (by rw [q3, bin64, inf64]; decide)
  rw [q3] at hv2
  rw [q4] at e2
  rw [hs] at e
  have hvv := val_le FloatKind.f64.format hR
  rw [← hv, ← hv2] at hvv
  have h1 : min p q ≤ p := Int.min_le_left _ _
  have h2 : min p q ≤ q := Int.min_le_right _ _
  have h3 : FloatKind.f64.format.leastPlace ≤ min p q := by omega
  have e3 : (p - FloatKind.f64.format.leastPlace).toNat = (p - min p q).toNat + (min p q - FloatKind.f64.format.leastPlace).toNat := by omega
  have e4 : (q - FloatKind.f64.format.leastPlace).toNat = (q - min p q).toNat + (min p q - FloatKind.f64.format.leastPlace).toNat := by omega
  have hv' := hv
  have hv2' := hv2
  rw [e3, Nat.pow_add 2 (p - min p q).toNat, ← Nat.mul_assoc] at hv'
  rw [e4, Nat.pow_add 2 (q - min p q).toNat, ← Nat.mul_assoc] at hv2'
  rw [hv, hv2, ← hv', ← hv2'] at hvv
  have hAB := Nat.le_of_mul_le_mul_right hvv (Nat.two_pow_pos _)
  obtain ⟨g1, g2⟩ := sub_pos _ _ hAB
  have hpred := val_pred FloatKind.f64.format (r := rung FloatKind.f64.format r) (a := 1024) (by rw [bin64] at hR; omega) (by rw [bin64]; decide) (by rw [bin64]; omega)
  have hpw := pow_le_val FloatKind.f64.format (E := 1021) (a := 1024) (by decide) bin64 (by decide)
  have hle : nearRung FloatKind.f64.format (m * 2 ^ (p - min p q).toNat - n * 2 ^ (q - min p q).toNat) (min p q) ≤ rung FloatKind.f64.format r - 1 := by
    refine near_le FloatKind.f64.format h3 (Int.le_refl _) ?_
    rw [Int.sub_self]
    rw [Nat.mul_sub_right_distrib, hv', hv2']
    simp only [Int.toNat_zero, Nat.pow_zero, Nat.mul_one]
    omega
  refine ⟨FloatKind.f64.format.word false (nearRung FloatKind.f64.format (m * 2 ^ (p - min p q).toNat - n * 2 ^ (q - min p q).toNat) (min p q)), ?_, cl_word _ (by omega), ?_⟩
  · rw [q1, fop_sub]
    unfold Format.sub
    rw [e, e2]
    simp only [Datum.opposite, Datum.sum, sg_signed, Option.map_some]
    rw [g1, g2, write_num, nearest_eq]
  · rw [(sgn_word .f64 false (by omega)).2]
    rw [bin64] at hR
    omega

theorem ph_ex (b : Nat) : ∀ n i : Nat, (∃ r, phF b i = some r ∧ cl .f64 r = some r ∧ rung FloatKind.f64.format r ≤ 1024 * 2 ^ 52 ∧ rung FloatKind.f64.format r < n) → (∀ k, k < i → phG (phF b k) = true) → ∃ j, First b j
  | 0, _, ⟨_, _, _, _, h⟩, _ => absurd h (Nat.not_lt_zero _)
  | n + 1, i, ⟨r, h1, h2, h3, h4⟩, hall => by
    cases hg : phG (phF b i)
    · exact ⟨i, hg, hall⟩
    · rw [h1] at hg
      obtain ⟨r', g1, g2, g3⟩ := quarter_step h2 h3 hg
      refine ph_ex b n (i + 1) ⟨r', by rw [phF, h1]; exact g1, g2, by omega, by omega⟩ fun k hk => ?_
      rcases Nat.lt_or_eq_of_le (Nat.le_of_lt_succ hk) with h | rfl
      · exact hall k h
      · rw [h1]; exact hg
theorem le_cl {c : Option Nat} {E : Nat} (h : LeE c E) (hE : E < 2047) : ∃ r, c = some r ∧ cl .f64 r = some r ∧ rung FloatKind.f64.format r ≤ E * 2 ^ 52 := by
  obtain ⟨r, h1, h2⟩ := h
  refine ⟨r, h1, cl_of_rung (Nat.le_trans h2 ?_), h2⟩
  rw [inf64]
  exact Nat.mul_le_mul_right _ (Nat.le_of_lt hE)
theorem ph_first {b : Nat} (h : Tur b) : ∃ j, First b j := by
  obtain ⟨r, h1, h2, h3⟩ := le_cl (beh_le h) (by decide)
  exact ph_ex b (rung FloatKind.f64.format r + 1) 0 ⟨r, h1, h2, h3, Nat.lt_succ_self _⟩ (fun k hk => absurd hk (Nat.not_lt_zero _))
theorem phF_le {b : Nat} (h : Tur b) {j : Nat} (hj : First b j) : ∀ i, i ≤ j → LeE (phF b i) 1024
  | 0, _ => beh_le h
  | i + 1, hi => by
    obtain ⟨r, h1, h2, h3⟩ := le_cl (phF_le h hj i (by omega)) (by decide)
    have hg := hj.2 i (by omega)
    rw [h1] at hg
    obtain ⟨r', g1, g2, g3⟩ := quarter_step h2 h3 hg
    exact ⟨r', by rw [phF, h1]; exact g1, by omega⟩

theorem phF_small {b : Nat} (h : Tur b) {j : Nat} (hj : First b j) : ∀ i, i ≤ j → ∃ r, phF b i = some r ∧ cl .f64 r = some r ∧ rung FloatKind.f64.format r + i ≤ 1024 * 2 ^ 52
  | 0, _ => by
    obtain ⟨r, h1, h2, h3⟩ := le_cl (beh_le h) (by decide)
    exact ⟨r, h1, h2, h3⟩
  | i + 1, hi => by
    obtain ⟨r, h1, h2, h3⟩ := phF_small h hj i (by omega)
    have hg := hj.2 i (by omega)
    rw [h1] at hg
    obtain ⟨r', g1, g2, g3⟩ := quarter_step h2 (by omega) hg
    exact ⟨r', by rw [phF, h1]; exact g1, g2, by omega⟩
theorem ph_small {b : Nat} (h : Tur b) {j : Nat} (hj : First b j) : j ≤ 4611686018427387904 := by
  obtain ⟨r, -, -, h3⟩ := phF_small h hj j (Nat.le_refl _)
  omega
/-- The sine of a class. -/
def sinK (c : Option Nat) : Option Nat := c.bind sinC
def phA (b j : Nat) : Option Nat := fop .sub .f64 (cl .f64 4598175219545276416) (phF b j)
def phCos (b j : Nat) : Option Nat := sinK (phA b j)
def phSin (b j : Nat) : Option Nat := sinK (phF b j)
def phRe (b j : Nat) : Option Nat := if j = 1 then fop .sub .f64 (cl .f64 0) (phSin b j) else if j = 2 then fop .sub .f64 (cl .f64 0) (phCos b j) else if j = 3 then phSin b j else phCos b j
def phIm (b j : Nat) : Option Nat := if j = 1 then phCos b j else if j = 2 then fop .sub .f64 (cl .f64 0) (phSin b j) else if j = 3 then fop .sub .f64 (cl .f64 0) (phCos b j) else phSin b j
theorem phRe_1 {b j : Nat} (h : (j : Int) = 1) : phRe b j = fop .sub .f64 (cl .f64 0) (phSin b j) ∧ phIm b j = phCos b j := by
  have : j = 1 := by omega
  unfold phRe phIm
  rw [if_pos this, if_pos this]; exact ⟨rfl, rfl⟩
theorem phRe_2 {b j : Nat} (h : (j : Int) = 2) : phRe b j = fop .sub .f64 (cl .f64 0) (phCos b j) ∧ phIm b j = fop .sub .f64 (cl .f64 0) (phSin b j) := by
  have h1 : ¬ j = 1 := by omega
  have h2 : j = 2 := by omega
  unfold phRe phIm
  rw [if_neg h1, if_pos h2, if_neg h1, if_pos h2]; exact ⟨rfl, rfl⟩
theorem phRe_3 {b j : Nat} (h : (j : Int) = 3) : phRe b j = phSin b j ∧ phIm b j = fop .sub .f64 (cl .f64 0) (phCos b j) := by
  have h1 : ¬ j = 1 := by omega
  have h2 : ¬ j = 2 := by omega
  have h3 : j = 3 := by omega
  unfold phRe phIm
  rw [if_neg h1, if_neg h2, if_pos h3, if_neg h1, if_neg h2, if_pos h3]; exact ⟨rfl, rfl⟩
theorem phRe_0 {b j : Nat} (g1 : ¬ (j : Int) = 1) (g2 : ¬ (j : Int) = 2) (g3 : ¬ (j : Int) = 3) : phRe b j = phCos b j ∧ phIm b j = phSin b j := by
  have h1 : ¬ j = 1 := by omega
  have h2 : ¬ j = 2 := by omega
  have h3 : ¬ j = 3 := by omega
  unfold phRe phIm
  rw [if_neg h1, if_neg h2, if_neg h3, if_neg h1, if_neg h2, if_neg h3]; exact ⟨rfl, rfl⟩
theorem sinK_of {c : Option Nat} {m : Nat} (h : cl .f64 m = c) (hT : Tur m) : sinK c = sinC m := by
  rw [← h, hT.1]; rfl
theorem kq_le : LeE (cl .f64 4598175219545276416) 1023 := leB_le (by decide +kernel)
theorem k0_le : LeE (cl .f64 0) 1 := leB_le (by decide +kernel)
theorem phA_le {b j : Nat} (h : Tur b) (hj : First b j) : LeE (phA b j) 1025 := LeE.sub (kq_le.mono (by decide)) (phF_le h hj j (Nat.le_refl _)) (by decide) (by decide) (by decide)
theorem sinK_le {c : Option Nat} {E : Nat} (h : LeE c E) (hE : E < 1075) : LeE (sinK c) 1117 := by
  obtain ⟨r, rfl, h2, h3⟩ := le_cl h (by omega)
  show LeE (sinC r) 1117
  exact sinC_le ⟨h2, Nat.lt_of_le_of_lt h3 (Nat.mul_lt_mul_of_pos_right hE (Nat.two_pow_pos _))⟩
theorem phCos_le {b j : Nat} (h : Tur b) (hj : First b j) : LeE (phCos b j) 1117 := sinK_le (phA_le h hj) (by decide)
theorem phSin_le {b j : Nat} (h : Tur b) (hj : First b j) : LeE (phSin b j) 1117 := sinK_le (phF_le h hj j (Nat.le_refl _)) (by decide)
theorem negz_le {c : Option Nat} (h : LeE c 1117) : LeE (fop .sub .f64 (cl .f64 0) c) 1118 := LeE.sub (k0_le.mono (by decide)) h (by decide) (by decide) (by decide)
theorem ph_fits {b j : Nat} (h : Tur b) (hj : First b j) : fits (phCos b j) = true ∧ fits (phSin b j) = true ∧ fits (fop .sub .f64 (cl .f64 0) (phCos b j)) = true ∧ fits (fop .sub .f64 (cl .f64 0) (phSin b j)) = true :=
  ⟨fits_of_le ((phCos_le h hj).mono (by decide)), fits_of_le ((phSin_le h hj).mono (by decide)), fits_of_le ((negz_le (phCos_le h hj)).mono (by decide)), fits_of_le ((negz_le (phSin_le h hj)).mono (by decide))⟩

/-- A call returns a complex number of two words of given classes. -/
def RetC (k : FloatKind) (r0 r1 : Option Nat) (w : World) (e : Ending) (w' : World) : Prop := ∃ a b n, e = .returned (.complex k a b) ∧ cl k a = r0 ∧ cl k b = r1 ∧ w' = w.drewN n
section
variable {P : Program} (w : World) {ops : Array Oper} {rest : List Oper} {o : Oper} {a : Act} {Q : Exit → Act → World → Prop}
theorem run_f2f (b : Nat) : ∃ r n, cl .f64 r = widen (cl .f32 b) ∧ (Conv.floatToFloat .f32 b .f64).run P w = .ok (.float .f64 r) (w.drewN n) := by
  unfold Conv.floatToFloat FloatKind.decode FloatKind.encode
  rw [if_neg (by decide)]
  by_cases hn : (FloatKind.f32.format.read b).isNaN = true
  · obtain ⟨s, t, hd⟩ := isNaN_eq _ hn
    rw [cl_nan hn, hd]
    exact ⟨_, 1, cut_nanConv .f64 b (w.tape w.drawn (.nanConv .f64 b)), by simp [forced_nanConv, Result.andThen, World.drew_is_drewN]⟩
  · have hn' : (FloatKind.f32.format.read b).isNaN = false := by simpa using hn
    rw [cl_num hn']
    refine ⟨FloatKind.f64.format.write (FloatKind.f32.format.read b), 0, ?_, ?_⟩
    · exact cl_num (read_write .f64 _ hn')
    · rw [World.drewN_zero]
      cases hd : FloatKind.f32.format.read b with
      | nan s t => rw [hd] at hn'; cases hn'
      | infinity s => rfl
      | number s m e =>
        have hfin := wide_finite hd
        simp only [hfin]; rfl
/-- 'complex128(x)' of a complex64. -/
theorem wpList_cwiden (s d : TypeId) (x : Operand) (hop : o.op = .convert s d x) (p q : Nat) (hx : a.eval x = .complex .f32 p q) (hd : P.underlying d = some (.complex .f64)) (hs : (P.underlying s).isSome = true)
    (hg : Region.wanted o (yielded ops a.tmps) = true)
    (hK : ∀ b c n, cl .f64 b = widen (cl .f32 p) → cl .f64 c = widen (cl .f32 q) → wpList P ops Q rest (a.put o.dst (.complex .f64 b c)) (w.drewN n)) : wpList P ops Q (o :: rest) a w := by
  refine wpList_wanted w hg fun K hK' => ?_
  obtain ⟨u, hs'⟩ := Option.isSome_iff_exists.1 hs
  obtain ⟨b, n, hb, hr⟩ := run_f2f (P := P) w p
  obtain ⟨c, n', hc, hr'⟩ := run_f2f (P := P) (w.drewN n) q
  have hconv : (convert s d (.complex .f32 p q)).run P w = .ok (.complex .f64 b c) (w.drewN (n + n')) := by
    have e1 : (convert s d (.complex .f32 p q)).run P w = (Conv.complexToComplex .f32 p q .f64).run P w := by
      cases u <;> simp [convert, run_underlying hs', run_underlying hd]
    rw [e1]
    unfold Conv.complexToComplex
    simp [hr, hr', Result.andThen]
  unfold Oper.wp
  simp [execOp, hop, hx, hconv, Result.andThen]
  exact hK' _ _ (hK b c _ hb hc)
end
end Go.Fl
