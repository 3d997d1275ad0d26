/- Products and quotients of complex numbers whose parts are small integers. -/
import Derived.Test.YthcgbpidnaimmaaGreatDoorExa
namespace Go.Fl
open Ieee Go.RowKit Go.Deep

theorem mul_bound {i j : Int} {A B : Nat} (hi : i.natAbs ≤ A) (hj : j.natAbs ≤ B) : (i * j).natAbs ≤ A * B := by
  rw [Int.natAbs_mul]
  exact Nat.mul_le_mul hi hj
/-- The product of complex numbers whose parts are integers. -/
theorem mulZ {a b c d : Option Nat} {i j m n : Int} (ha : IsZ .f32 a i) (hb : IsZ .f32 b j) (hc : IsZ .f32 c m) (hd : IsZ .f32 d n) (hi : i.natAbs ≤ 80000) (hj : j.natAbs ≤ 80000) (hm : m.natAbs ≤ 200) (hn : n.natAbs ≤ 200) :
    IsZ .f64 (mulRe (widen a) (widen b) (widen c) (widen d)) (i * m - j * n) ∧ IsZ .f64 (mulIm (widen a) (widen b) (widen c) (widen d)) (i * n + j * m) := by
  have h1 := mul_bound hi hm
  have h2 := mul_bound hj hn
  have h3 := mul_bound hi hn
  have h4 := mul_bound hj hm
  exact ⟨isZ_mulRe ha.widen hb.widen hc.widen hd.widen (roomy64 (by omega)) (roomy64 (by omega)) (roomy64 (by omega)), isZ_mulIm ha.widen hb.widen hc.widen hd.widen (roomy64 (by omega)) (roomy64 (by omega)) (roomy64 (by omega))⟩
theorem mulZ32 {a b c d : Option Nat} {i j m n : Int} (ha : IsZ .f32 a i) (hb : IsZ .f32 b j) (hc : IsZ .f32 c m) (hd : IsZ .f32 d n) (hi : i.natAbs ≤ 200) (hj : j.natAbs ≤ 200) (hm : m.natAbs ≤ 200) (hn : n.natAbs ≤ 200) :
    fits (mulRe (widen a) (widen b) (widen c) (widen d)) = true ∧ fits (mulIm (widen a) (widen b) (widen c) (widen d)) = true ∧
      IsZ .f32 (narrow (mulRe (widen a) (widen b) (widen c) (widen d))) (i * m - j * n) ∧ IsZ .f32 (narrow (mulIm (widen a) (widen b) (widen c) (widen d))) (i * n + j * m) := by
  have h1 := mul_bound hi hm
  have h2 := mul_bound hj hn
  have h3 := mul_bound hi hn
  have h4 := mul_bound hj hm
  obtain ⟨r1, r2⟩ := mulZ ha hb hc hd (by omega) (by omega) hm hn
  obtain ⟨f1, g1⟩ := r1.narrow (roomy32 (by omega))
  obtain ⟨f2, g2⟩ := r2.narrow (roomy32 (by omega))
  exact ⟨f1, f2, g1, g2⟩
theorem powZ {a b : Option Nat} {i j : Int} (ha : IsZ .f32 a i) (hb : IsZ .f32 b j) (hi : i.natAbs ≤ 200) (hj : j.natAbs ≤ 200) :
    IsZ .f64 (powC (widen a) (widen b)) (i * i + j * j) ∧ fits (powC (widen a) (widen b)) = true ∧ IsZ .f32 (narrow (powC (widen a) (widen b))) (i * i + j * j) := by
  have h1 := mul_bound hi hi
  have h2 := mul_bound hj hj
  have h3 := isZ_powC ha.widen hb.widen (roomy64 (by omega)) (roomy64 (by omega)) (roomy64 (by omega))
  exact ⟨h3, h3.narrow (roomy32 (by omega))⟩
theorem quoZ {p q c d : Option Nat} {i j m n : Int} (hp : IsZ .f32 p (i * m - j * n)) (hq : IsZ .f32 q (i * n + j * m)) (hc : IsZ .f32 c m) (hd : IsZ .f32 d n) (hi : i.natAbs ≤ 200) (hj : j.natAbs ≤ 200) (hm : m.natAbs ≤ 200) (hn : n.natAbs ≤ 200) (h0 : m * m + n * n ≠ 0) :
    fits (fop .quo .f64 (mulRe (widen p) (widen q) (widen c) (negC (widen d))) (powC (widen c) (widen d))) = true ∧ IsZ .f32 (narrow (fop .quo .f64 (mulRe (widen p) (widen q) (widen c) (negC (widen d))) (powC (widen c) (widen d)))) i ∧
    fits (fop .quo .f64 (mulIm (widen p) (widen q) (widen c) (negC (widen d))) (powC (widen c) (widen d))) = true ∧ IsZ .f32 (narrow (fop .quo .f64 (mulIm (widen p) (widen q) (widen c) (negC (widen d))) (powC (widen c) (widen d)))) j := by
  obtain ⟨hw, -, -⟩ := powZ hc hd hm hn
  have b1 := mul_bound hi hm
  have b2 := mul_bound hj hn
  have b3 := mul_bound hi hn
  have b4 := mul_bound hj hm
  have bp : (i * m - j * n).natAbs ≤ 80000 := by omega
  have bq : (i * n + j * m).natAbs ≤ 80000 := by omega
  have bn : (-n).natAbs ≤ 200 := by omega
  have c1 := mul_bound bp hm
  have c2 := mul_bound bq bn
  have c3 := mul_bound bp bn
  have c4 := mul_bound bq hm
  have r1 := isZ_mulRe hp.widen hq.widen hc.widen hd.widen.negC (roomy64 (by omega)) (roomy64 (by omega)) (roomy64 (by omega))
  have r2 := isZ_mulIm hp.widen hq.widen hc.widen hd.widen.negC (roomy64 (by omega)) (roomy64 (by omega)) (roomy64 (by omega))
  have e1 : (i * m - j * n) * m - (i * n + j * m) * -n = i * (m * m + n * n) := by grind
  have e2 : (i * m - j * n) * -n + (i * n + j * m) * m = j * (m * m + n * n) := by grind
  rw [e1] at r1
  rw [e2] at r2
  have s1 := (IsZ.quo r1 hw h0 (roomy64 (by omega))).narrow (roomy32 (by omega))
  have s2 := (IsZ.quo r2 hw h0 (roomy64 (by omega))).narrow (roomy32 (by omega))
  exact ⟨s1.1, s1.2, s2.1, s2.2⟩
theorem IsZ.eq {k : FloatKind} {c d : Option Nat} {n : Int} (hc : IsZ k c n) (hd : IsZ k d n) : Go.Fl.ford k c d = some .eq := by
  rw [hc.ford hd, compare_int, if_neg (by omega), if_pos rfl]
theorem IsZ.ne {k : FloatKind} {c d : Option Nat} {n m : Int} (hc : IsZ k c n) (hd : IsZ k d m) (h : n ≠ m) : (Go.Fl.ford k c d == some .eq) = false := by
  rw [hc.ford hd, compare_int]
  split
  · rfl
  · simp
/-- A word that is an integer, and whose sign is the integer's, is one word. -/
theorem isZ_word {k : FloatKind} {b b' : Nat} {n : Int} (h : IsZ k (some b) n) (h' : IsZ k (some b') n) (hs : sgn k.format b = sgn k.format b') (hb : b < 2 * k.format.signWeight) (hb' : b' < 2 * k.format.signWeight) : b = b' := by
  obtain ⟨x, hx, hr, hv⟩ := h
  obtain ⟨x', hx', hr', hv'⟩ := h'
  injection hx with hx
  injection hx' with hx'
  subst hx
  subst hx'
  rw [← hv', hs] at hv
  have h1 : val k.format (rung k.format b) = val k.format (rung k.format b') := by
    unfold sg at hv; split at hv <;> omega
  have h2 : rung k.format b = rung k.format b' := by
    rcases Nat.lt_trichotomy (rung k.format b) (rung k.format b') with h | h | h
    · have := val_lt k.format h; omega
    · exact h
    · have := val_lt k.format h; omega
  exact bits_inj hb hb' hs h2
theorem sgn_nearest (m : Nat) (p : Int) : sgn FloatKind.f64.format (FloatKind.f64.format.nearest false m p) = false := by
  rw [nearest_eq]
  exact (sgn_word .f64 false (by
    unfold nearRung
    split
    · exact Nat.zero_le _
    · exact Nat.min_le_right _ _)).1
theorem sgn_mul_self {a b : Nat} (h : fop .mul .f64 (some a) (some a) = some b) (hf : rung FloatKind.f64.format a < FloatKind.f64.format.infRung) : sgn FloatKind.f64.format b = false := by
  obtain ⟨m, p, e, -⟩ := read_fin FloatKind.f64.format hf
  change FloatKind.f64.format.mul a a = some b at h
  unfold Format.mul at h
  rw [e] at h
  change some (FloatKind.f64.format.nearest (sgn FloatKind.f64.format a ^^ sgn FloatKind.f64.format a) (m * m) (p + p)) = some b at h
  injection h with h
  rw [Bool.xor_self] at h
  rw [← h]
  exact sgn_nearest _ _
theorem sgn_add_nn {u v b : Nat} (h : fop .add .f64 (some u) (some v) = some b) (hu : rung FloatKind.f64.format u < FloatKind.f64.format.infRung) (hv : rung FloatKind.f64.format v < FloatKind.f64.format.infRung) (su : sgn FloatKind.f64.format u = false) (sv : sgn FloatKind.f64.format v = false) : sgn FloatKind.f64.format b = false := by
  obtain ⟨m, p, e, -⟩ := read_fin FloatKind.f64.format hu
  obtain ⟨n, q, e', -⟩ := read_fin FloatKind.f64.format hv
  change FloatKind.f64.format.add u v = some b at h
  unfold Format.add at h
  rw [e, e', su, sv] at h
  simp only [Datum.sum, Option.map_some] at h
  injection h with h
  have hs : (if signed false m (p - min p q).toNat + signed false n (q - min p q).toNat = 0 then false && false else decide (signed false m (p - min p q).toNat + signed false n (q - min p q).toNat < 0)) = false := by
    split
    · rfl
    · refine decide_eq_false ?_
      rw [sg_signed, sg_signed]
      have e : ∀ x : Nat, sg false x = x := fun _ => rfl
      rw [e, e]
      generalize m * 2 ^ (p - min p q).toNat = X
      generalize n * 2 ^ (q - min p q).toNat = Y
      omega
  rw [hs] at h
  rw [← h]
  exact sgn_nearest _ _
theorem widen_wf {c : Option Nat} {b : Nat} (h : widen c = some b) : b < 2 ^ 64 := by
  rcases c with _ | a
  · cases h
  · injection h with h
    rw [← h]
    exact FloatKind.f64.format.write_lt _
theorem fop_wf {op : BinOp} {x y : Option Nat} {b : Nat} (h : fop op .f64 x y = some b) : b < 2 ^ 64 := by
  rcases x with _ | x
  · cases h
  rcases y with _ | y
  · cases h
  have := floatBits_wf (k := .f64) h
  simpa [Lit.wf] using this
/-- The power of a complex number whose parts are integers, in 64 bits, is the integer's. -/
theorem powW {a b : Option Nat} {i j : Int} (ha : IsZ .f32 a i) (hb : IsZ .f32 b j) (hi : i.natAbs ≤ 200) (hj : j.natAbs ≤ 200) : powC (widen a) (widen b) = widen (cl .f32 (floatOfInt .f32 (i * i + j * j))) := by
  have h1 := mul_bound hi hi
  have h2 := mul_bound hj hj
  have n1 : 0 ≤ i * i := by rw [← Int.natAbs_mul_self]; omega
  have n2 : 0 ≤ j * j := by rw [← Int.natAbs_mul_self]; omega
  have hr : roomy .f32 (i * i + j * j) := roomy32 (by omega)
  obtain ⟨hp, -, -⟩ := powZ ha hb hi hj
  have hq := (isZ_cl .f32 hr).widen
  have ha' := ha.widen
  have hb' := hb.widen
  have hm1 := ha'.mul ha' (roomy64 (by omega))
  have hm2 := hb'.mul hb' (roomy64 (by omega))
  obtain ⟨x, hx, hxr, -⟩ := ha'
  obtain ⟨y, hy, hyr, -⟩ := hb'
  have hpw : ∃ u, powC (widen a) (widen b) = some u ∧ sgn FloatKind.f64.format u = false := by
    obtain ⟨u, hu, hur, -⟩ := hm1
    obtain ⟨v, hv, hvr, -⟩ := hm2
    have su := sgn_mul_self (by rw [← hu, hx]) hxr
    have sv := sgn_mul_self (by rw [← hv, hy]) hyr
    obtain ⟨z, hz, -⟩ := hp
    refine ⟨z, hz, ?_⟩
    unfold powC at hz
    rw [hu, hv] at hz
    exact sgn_add_nn hz hur hvr su sv
  obtain ⟨u, hu, su⟩ := hpw
  obtain ⟨v, hv, hv2, -, hs, -⟩ := widen_cl (cl_int .f32 hr)
  rw [cl_int .f32 hr] at hq ⊢
  rw [hu, hv]
  rw [hu] at hp
  rw [hv] at hq
  have sv : sgn FloatKind.f64.format v = false := by
    rw [hs]
    have hd : decide (i * i + j * j < 0) = false := decide_eq_false (by omega)
    show sgn FloatKind.f32.format (FloatKind.f32.format.nearest (decide (i * i + j * j < 0)) _ 0) = false
    rw [hd, nearest_eq]
    exact (sgn_word .f32 false (by
      unfold nearRung
      split
      · exact Nat.zero_le _
      · exact Nat.min_le_right _ _)).1
  have e := isZ_word (k := .f64) hp hq (by rw [su, sv]) (by rw [sw64]; have := fop_wf (show fop .add .f64 _ _ = some u from hu); omega) (by rw [sw64]; have := widen_wf hv; omega)
  rw [e]
theorem isZ_toInt_cl {k : FloatKind} {b : Nat} {n : Int} (h : IsZ k (cl k b) n) : (k.format.read b).toInt .zero = some n := by
  obtain ⟨x, hx, hr, hv⟩ := h
  obtain ⟨rfl, -⟩ := cl_some hx
  exact isZ_toInt ⟨_, rfl, hr, hv⟩
theorem int_bound {i : Int} {A : Nat} (h : i.natAbs ≤ A) : -(A : Int) ≤ i ∧ i ≤ A := by omega

theorem isZ_csum {k : FloatKind} {p q r s : Nat} {i j m n : Int} (hp : IsZ k (cl k p) i) (hq : IsZ k (cl k q) j) (hr : IsZ k (cl k r) m) (hs : IsZ k (cl k s) n) (h1 : roomy k (i + m)) (h2 : roomy k (j + n)) :
    ∃ re im, cSumBits .add k p q r s = some (re, im) ∧ IsZ k (cl k re) (i + m) ∧ IsZ k (cl k im) (j + n) := by
  have a1 := hp.add hr h1
  have a2 := hq.add hs h2
  rw [fop_cl] at a1 a2
  obtain ⟨x, hx, hxr, hxv⟩ := a1
  obtain ⟨y, hy, hyr, hyv⟩ := a2
  refine ⟨x, y, by unfold cSumBits; rw [hx, hy]; rfl, ?_, ?_⟩
  · rw [cl_of_rung (Nat.le_of_lt hxr)]; exact ⟨_, rfl, hxr, hxv⟩
  · rw [cl_of_rung (Nat.le_of_lt hyr)]; exact ⟨_, rfl, hyr, hyv⟩
section
variable {P : Program} (w : World) {ops : Array Oper} {rest : List Oper} {o : Oper} {a : Act} {Q : Exit → Act → World → Prop}
/-- '+' on two complex numbers. -/
theorem wpList_cadd (t t' : TypeId) (x y : Operand) (hop : o.op = .binOp .add t x y t') (k : FloatKind) (p q r s re im : Nat) (hx : a.eval x = .complex k p q) (hy : a.eval y = .complex k r s)
    (hg : Region.wanted o (yielded ops a.tmps) = true) (h : cSumBits .add k p q r s = some (re, im))
    (hK : wpList P ops Q rest (a.put o.dst (.complex k re im)) w) : wpList P ops Q (o :: rest) a w := by
  refine wpList_wanted w hg fun K hK' => ?_
  have hr := run_complex_sum (P := P) w .add (.inl rfl) t k p q r s re im h
  unfold Oper.wp
  have he : (eqGuard .add t x y (.complex k p q) (.complex k r s)).run P w = .ok () w := by simp [eqGuard]
  simp [execOp, hop, hx, hy, he, hr, Result.andThen]
  exact hK' _ _ hK
end

theorem sq_ne {m n : Int} (h : ¬ (m = 0 ∧ n = 0)) : m * m + n * n ≠ 0 := by
  have n1 : 0 ≤ m * m := by rw [← Int.natAbs_mul_self]; omega
  have n2 : 0 ≤ n * n := by rw [← Int.natAbs_mul_self]; omega
  intro e
  have e1 : m * m = 0 := by omega
  have e2 : n * n = 0 := by omega
  refine h ⟨?_, ?_⟩
  · rcases Int.mul_eq_zero.1 e1 with h | h <;> exact h
  · rcases Int.mul_eq_zero.1 e2 with h | h <;> exact h
theorem pair_ne {c d : Option Nat} {m n : Int} (hc : IsZ .f32 c m) (hd : IsZ .f32 d n) (h : ¬ (m = 0 ∧ n = 0)) :
    (Go.Fl.ford .f32 c (cl .f32 0) == some .eq) = false ∨ ((Go.Fl.ford .f32 c (cl .f32 0) = some .eq) ∧ (Go.Fl.ford .f32 d (cl .f32 0) == some .eq) = false) := by
  have z0 : IsZ .f32 (cl .f32 0) 0 := isZ_cl .f32 (n := 0) (roomy32 (by decide))
  by_cases hm : m = 0
  · subst hm
    exact .inr ⟨hc.eq z0, hd.ne z0 (fun e => h ⟨rfl, e⟩)⟩
  · exact .inl (hc.ne z0 hm)

end Go.Fl
