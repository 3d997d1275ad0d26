/- Decimal numerals read back: both readers take just the numerals of the numbers from -MaxValue to MaxValue. -/
import Derived.Test.YthcgbpidnaimmaaGreatDoorDec
import Derived.Lib.ParseIntB
import Derived.Lib.IndexBytes
import Derived.Lib.AtoiErrMem
namespace Go.Fl

def isDig (c : UInt8) : Bool := decide (48 ≤ c.toNat) && decide (c.toNat ≤ 57)
/-- The number that the digits among some bytes make. -/
def dval (acc : Nat) : List UInt8 → Nat
  | [] => acc
  | c :: r => dval (if isDig c then acc * 10 + (c.toNat - 48) else acc) r
theorem dval_append : ∀ (l m : List UInt8) (acc : Nat), dval acc (l ++ m) = dval (dval acc l) m
  | [], _, _ => rfl
  | _ :: r, m, _ => dval_append r m _
theorem dval_mono : ∀ (l : List UInt8) (acc : Nat), acc ≤ dval acc l
  | [], _ => Nat.le_refl _
  | c :: r, acc => by
    refine Nat.le_trans ?_ (dval_mono r _)
    split <;> omega
theorem dval_lt : ∀ (l : List UInt8) (acc k : Nat), acc < 10 ^ k → dval acc l < 10 ^ (k + l.length)
  | [], _, _, h => h
  | c :: r, acc, k, h => by
    have := dval_lt r (if isDig c then acc * 10 + (c.toNat - 48) else acc) (k + 1) (by
      rw [Nat.pow_succ]
      split
      · rename_i hd
        unfold isDig at hd
        simp at hd
        omega
      · omega)
    rw [List.length_cons, show k + (r.length + 1) = k + 1 + r.length by omega]
    exact this
theorem digit_byte {d : Nat} (h : d < 10) : (UInt8.ofNat (48 + d)).toNat = 48 + d := by
  rw [UInt8.toNat_ofNat', Nat.mod_eq_of_lt (by omega)]
theorem isDig_byte {d : Nat} (h : d < 10) : isDig (UInt8.ofNat (48 + d)) = true := by
  unfold isDig
  rw [digit_byte h]
  simp; omega
theorem dec_digits : ∀ (n u : Nat), u < n → ∀ c ∈ Lib.decDigits u, isDig c = true
  | 0, _, h => absurd h (Nat.not_lt_zero _)
  | n + 1, u, h => by
    intro c hc
    by_cases h1 : u < 10
    · rw [Lib.decDigits_one h1] at hc
      rw [List.mem_singleton.1 hc]
      exact isDig_byte h1
    · rw [Lib.decDigits, dif_neg h1] at hc
      rcases List.mem_append.1 hc with hc | hc
      · exact dec_digits n (u / 10) (by omega) c hc
      · rw [List.mem_singleton.1 hc]
        exact isDig_byte (Nat.mod_lt _ (by decide))
theorem dval_dec : ∀ (n u : Nat), u < n → dval 0 (Lib.decDigits u) = u
  | 0, _, h => absurd h (Nat.not_lt_zero _)
  | n + 1, u, h => by
    by_cases h1 : u < 10
    · rw [Lib.decDigits_one h1]
      simp only [dval, isDig_byte h1, if_true, digit_byte h1]
      omega
    · rw [Lib.decDigits, dif_neg h1, dval_append, dval_dec n (u / 10) (by omega)]
      have h2 : u % 10 < 10 := Nat.mod_lt _ (by decide)
      simp only [dval, isDig_byte h2, if_true, digit_byte h2]
      omega
theorem parse_dec {M : Nat} (hM : M < 18446744073709551616) : ∀ (l : List UInt8) (acc : Nat), (∀ c ∈ l, isDig c = true) → dval acc l ≤ M → Lib.parseUintM M acc l = .ok (dval acc l)
  | [], _, _, _ => rfl
  | c :: r, acc, hd, hv => by
    have hc := hd c (List.mem_cons_self ..)
    have hm := dval_mono r (if isDig c then acc * 10 + (c.toNat - 48) else acc)
    have hv' : dval (if isDig c then acc * 10 + (c.toNat - 48) else acc) r ≤ M := hv
    have hc2 : 48 ≤ c.toNat ∧ c.toNat ≤ 57 := by unfold isDig at hc; simpa using hc
    rw [if_pos hc] at hm hv'
    have ih := parse_dec hM r (acc * 10 + (c.toNat - 48)) (fun x hx => hd x (List.mem_cons_of_mem _ hx)) hv'
    simp only [Lib.parseUintM, dval]
    rw [if_pos hc2, if_neg (by omega), if_neg (by omega), if_pos hc]
    exact ih
theorem dec_cons (u : Nat) : ∃ c r, Lib.decDigits u = c :: r ∧ isDig c = true := by
  have h1 := Lib.decDigits_length u
  have h2 := Lib.nDigits_pos u
  cases hd : Lib.decDigits u with
  | nil => rw [hd] at h1; simp at h1; omega
  | cons c r => exact ⟨c, r, rfl, dec_digits (u + 1) u (Nat.lt_succ_self _) c (by rw [hd]; exact List.mem_cons_self ..)⟩
/-- What the reference's reader makes of some bytes ahead of its tests. -/
def mval (l : List UInt8) : Int := if l.head? = some 45 then -(dval 0 l : Int) else dval 0 l
theorem mval_itoa (v : Int) : mval (Lib.itoa v) = v := by
  unfold Lib.itoa mval
  have hd := fun u => dval_dec (u + 1) u (Nat.lt_succ_self _)
  by_cases h : v < 0
  · rw [if_pos h]
    have e : dval 0 (45 :: Lib.decDigits v.natAbs) = v.natAbs := by
      have : isDig 45 = false := by decide
      simp only [dval, this, Bool.false_eq_true, if_false]
      exact hd _
    rw [e]
    simp
    omega
  · rw [if_neg h]
    obtain ⟨c, r, e, hc⟩ := dec_cons v.toNat
    have hne : ¬ (Lib.decDigits v.toNat).head? = some 45 := by
      rw [e]
      intro g
      have : c = 45 := by simpa using g
      rw [this] at hc
      exact absurd hc (by decide)
    rw [if_neg hne, hd]
    omega
theorem parse_itoa {v : Int} (h0 : -9223372036854775808 ≤ v) (h1 : v ≤ 9223372036854775807) : Lib.parseIntB 64 (Lib.itoa v) = .ok v := by
  have hp := fun u (hu : u < 18446744073709551616) => parse_dec (M := 2 ^ 64 - 1) (by decide) (Lib.decDigits u) 0 (dec_digits (u + 1) u (Nat.lt_succ_self _)) (by rw [dval_dec (u + 1) u (Nat.lt_succ_self _)]; omega)
  have hd := fun u => dval_dec (u + 1) u (Nat.lt_succ_self _)
  unfold Lib.itoa
  by_cases h : v < 0
  · rw [if_pos h]
    obtain ⟨c, r, e, hc⟩ := dec_cons v.natAbs
    have hne : Lib.decDigits v.natAbs ≠ [] := by rw [e]; simp
    have hp' := hp v.natAbs (by omega)
    rw [hd] at hp'
    unfold Lib.parseIntB
    have e45 : (45 : UInt8).toNat = 45 := rfl
    simp only [e45, or_true, if_true, Lib.parseUintB, hne, if_false, hp', not_true_eq_false, false_and, true_and]
    rw [if_neg (by omega)]
    congr 1
    omega
  · rw [if_neg h]
    obtain ⟨c, r, e, hc⟩ := dec_cons v.toNat
    have hp' := hp v.toNat (by omega)
    rw [hd, e] at hp'
    have hc2 : 48 ≤ c.toNat ∧ c.toNat ≤ 57 := by unfold isDig at hc; simpa using hc
    rw [e]
    unfold Lib.parseIntB
    have n1 : ¬ c.toNat = 43 := by omega
    have n2 : ¬ c.toNat = 45 := by omega
    simp only [n1, n2, or_self, if_false, Lib.parseUintB, reduceCtorEq, hp', not_false_eq_true, true_and, false_and]
    rw [if_neg (by omega)]
    congr 1
    omega
theorem nDigits_le : ∀ (k u : Nat), 1 ≤ k → u < 10 ^ k → Lib.nDigits u ≤ k
  | 0, _, h, _ => absurd h (by decide)
  | k + 1, u, _, h => by
    by_cases h1 : u < 10
    · rw [Lib.nDigits_small h1]; omega
    · rw [Lib.nDigits_big h1]
      rcases Nat.eq_zero_or_pos k with rfl | hk
      · simp at h; omega
      · have := nDigits_le k (u / 10) hk (by rw [Nat.pow_succ] at h; omega)
        omega
def inR (v : Int) : Prop := -1000000000000000 ≤ v ∧ v ≤ 1000000000000000
instance (v : Int) : Decidable (inR v) := by unfold inR; exact inferInstance
theorem itoa_len {v : Int} (h : inR v) : 1 ≤ (Lib.itoa v).length ∧ (Lib.itoa v).length ≤ 17 := by
  unfold inR at h
  have h1 := Lib.nDigits_pos
  have h2 := fun u hu => nDigits_le 16 u (by decide) hu
  unfold Lib.itoa
  split
  · rw [List.length_cons, Lib.decDigits_length]
    have := h1 v.natAbs
    have := h2 v.natAbs (by omega)
    omega
  · rw [Lib.decDigits_length]
    have := h1 v.toNat
    have := h2 v.toNat (by omega)
    omega
/-- What both readers return. -/
def rdR (l : List UInt8) : Int × Bool := if inR (mval l) ∧ Lib.itoa (mval l) = l then (mval l, true) else (0, false)
theorem rdR_yes {l : List UInt8} {v : Int} (h : inR v) (e : Lib.itoa v = l) : rdR l = (v, true) := by
  subst e
  unfold rdR
  rw [mval_itoa, if_pos ⟨h, rfl⟩]
theorem rdR_no {l : List UInt8} (h : ∀ v, inR v → Lib.itoa v = l → False) : rdR l = (0, false) := by
  unfold rdR
  rw [if_neg fun g => h _ g.1 g.2]
theorem rdR_parse {l : List UInt8} {v : Int} (hp : Lib.parseIntB 64 l = .ok v) (h : ¬ (inR v ∧ Lib.itoa v = l)) : rdR l = (0, false) := rdR_no fun w h1 h2 => by
  have h1' := h1
  unfold inR at h1'
  have := parse_itoa (v := w) (by omega) (by omega)
  rw [h2, hp] at this
  injection this with this
  subst this
  exact h ⟨h1, h2⟩
theorem rdR_fail {l : List UInt8} (hp : ∀ v, Lib.parseIntB 64 l ≠ .ok v) : rdR l = (0, false) := rdR_no fun w h1 h2 => by
  unfold inR at h1
  have := parse_itoa (v := w) (by omega) (by omega)
  rw [h2] at this
  exact hp _ this
theorem rdR_size {l : List UInt8} (h : l.length < 1 ∨ 17 < l.length) : rdR l = (0, false) := rdR_no fun w h1 h2 => by
  have := itoa_len h1
  rw [h2] at this
  omega
/-- What a parse gives is an int64. -/
theorem parse_in {l : List UInt8} {v : Int} (h : Lib.parseIntB 64 l = .ok v) : -9223372036854775808 ≤ v ∧ v ≤ 9223372036854775807 := by
  unfold Lib.parseIntB at h
  split at h
  · cases h
  · dsimp only at h
    split at h
    · cases h
    · cases h
    · split at h
      · cases h
      · split at h
        · cases h
        · rename_i h1 h2
          injection h with h
          simp only [Nat.reduceSub, Nat.reducePow] at h1 h2
          split at h <;> omega
theorem take_snoc (s : ByteArray) (k : Nat) (h : k < s.size) : s.data.toList.take (k + 1) = s.data.toList.take k ++ [s[k]] := by
  have h' : k < s.data.toList.length := by simpa using h
  rw [List.take_add_one, List.getElem?_eq_getElem h']
  rfl
theorem dval_snoc (s : ByteArray) (k : Nat) (h : k < s.size) : dval 0 (s.data.toList.take (k + 1)) = if isDig s[k] then dval 0 (s.data.toList.take k) * 10 + (s[k].toNat - 48) else dval 0 (s.data.toList.take k) := by
  rw [take_snoc s k h, dval_append]
  rfl
theorem dval_take (s : ByteArray) (k : Nat) (hk : k ≤ 17) : dval 0 (s.data.toList.take k) < 100000000000000000 := by
  have h := dval_lt (s.data.toList.take k) 0 0 (by decide)
  refine Nat.lt_of_lt_of_le h ?_
  have e : (100000000000000000 : Nat) = 10 ^ 17 := by decide
  rw [e]
  refine Nat.pow_le_pow_right (by decide) ?_
  rw [List.length_take]; omega
theorem isDig_yes {c : UInt8} (h1 : (48 : Int) ≤ c.toNat) (h2 : (c.toNat : Int) ≤ 57) : isDig c = true := by
  unfold isDig; simp; omega
theorem isDig_no {c : UInt8} (h : ¬ ((48 : Int) ≤ c.toNat ∧ (c.toNat : Int) ≤ 57)) : isDig c = false := by
  unfold isDig
  rw [Bool.and_eq_false_iff, decide_eq_false_iff_not, decide_eq_false_iff_not]
  omega
theorem mval_head (s : ByteArray) (h : 0 < s.size) : mval s.data.toList = if (s[0].toNat : Int) = 45 then -(dval 0 s.data.toList : Int) else (dval 0 s.data.toList : Int) := by
  unfold mval
  have h' : 0 < s.data.toList.length := by simpa using h
  have e : s.data.toList.head? = some s[0] := by
    rw [List.head?_eq_getElem?, List.getElem?_eq_getElem h']; rfl
  rw [e]
  by_cases h1 : (s[0].toNat : Int) = 45
  · have : s[0] = 45 := UInt8.toNat_inj.1 (by show s[0].toNat = 45; omega)
    rw [if_pos h1, this, if_pos rfl]
  · rw [if_neg h1, if_neg]
    intro g
    have : s[0] = 45 := by simpa using g
    rw [this] at h1
    exact h1 (by decide)
theorem rdR_in {l : List UInt8} (h : inR (mval l)) (e : Lib.itoa (mval l) = l) : rdR l = (mval l, true) := by
  unfold rdR; rw [if_pos ⟨h, e⟩]
theorem rdR_out {l : List UInt8} (h : ¬ inR (mval l)) : rdR l = (0, false) := by
  unfold rdR; rw [if_neg fun g => h g.1]
theorem rdR_other {l : List UInt8} (h : Lib.itoa (mval l) ≠ l) : rdR l = (0, false) := by
  unfold rdR; rw [if_neg fun g => h g.2]
theorem str_ne {l : List UInt8} {s : ByteArray} (h : l ≠ s.data.toList) : (⟨l.toArray⟩ : ByteArray) ≠ s := fun e => h (by rw [← e])
theorem str_eq {l : List UInt8} {s : ByteArray} (h : l = s.data.toList) : (⟨l.toArray⟩ : ByteArray) = s := by rw [h]
theorem byte_lt2 (c : UInt8) : (c.toNat : Int) < 256 := by have := c.toNat_lt; omega
theorem str_neb {l : List UInt8} {s : ByteArray} (h : l ≠ s.data.toList) : (l == s.toList) = false := by
  rw [Lib.toList_data]
  simpa using h
theorem str_eqb {l : List UInt8} {s : ByteArray} (h : l = s.data.toList) : (l == s.toList) = true := by
  rw [Lib.toList_data]
  simpa using h
theorem bytes_gro {w w' : World} {t : TypeId} (h : w' = w ∨ ∃ s, w' = Lib.bytesWorld w t s) : Gro w w' := by
  rcases h with rfl | ⟨s, rfl⟩
  · exact Gro.refl _
  · exact Lib.bytesWorld_below _ _ _
end Go.Fl
