/- Hexadecimal numerals: eight digits. -/
import Derived.Test.YthcgbpidnaimmaaGreatDoorCut
namespace Go.Fl
open Go.RowKit Go.Deep

def hxc (d : Nat) : UInt8 := if d < 10 then UInt8.ofNat (48 + d) else UInt8.ofNat (87 + d)
/-- The last k digits of n. -/
def hexW : Nat → Nat → List UInt8
  | 0, _ => []
  | k + 1, n => hxc (n / 16 ^ k % 16) :: hexW k n
theorem hexW_len : ∀ (k n : Nat), (hexW k n).length = k
  | 0, _ => rfl
  | k + 1, n => by rw [hexW, List.length_cons, hexW_len k n]
theorem hexW_pad (L n : Nat) (h : n < 16 ^ L) : ∀ k, hexW (k + L) n = List.replicate k 48 ++ hexW L n
  | 0 => by rw [Nat.zero_add]; rfl
  | k + 1 => by
    rw [show k + 1 + L = (k + L) + 1 by omega, hexW, hexW_pad L n h k]
    have : n / 16 ^ (k + L) = 0 := Nat.div_eq_of_lt (Nat.lt_of_lt_of_le h (Nat.pow_le_pow_right (by decide) (by omega)))
    rw [this]
    rfl
def hexD (c : UInt8) : Option Nat := if 48 ≤ c.toNat ∧ c.toNat ≤ 57 then some (c.toNat - 48) else if 97 ≤ c.toNat ∧ c.toNat ≤ 102 then some (c.toNat - 87) else none
theorem hxc_nat {d : Nat} (h : d < 16) : (hxc d).toNat = if d < 10 then 48 + d else 87 + d := by
  unfold hxc
  split
  · rw [UInt8.toNat_ofNat', Nat.mod_eq_of_lt (by omega)]
  · rw [UInt8.toNat_ofNat', Nat.mod_eq_of_lt (by omega)]
theorem hexD_hxc {d : Nat} (h : d < 16) : hexD (hxc d) = some d := by
  unfold hexD
  rw [hxc_nat h]
  by_cases h1 : d < 10
  · rw [if_pos h1, if_pos (by omega)]
    congr 1; omega
  · rw [if_neg h1, if_neg (by omega), if_pos (by omega)]
    congr 1; omega
theorem hexD_lt {c : UInt8} {d : Nat} (h : hexD c = some d) : d < 16 := by
  unfold hexD at h
  split at h
  · simp at h; omega
  · split at h
    · simp at h; omega
    · cases h
theorem hexD_inv {c : UInt8} {d : Nat} (h : hexD c = some d) : hxc d = c := by
  apply UInt8.toNat_inj.1
  rw [hxc_nat (hexD_lt h)]
  unfold hexD at h
  split at h
  · simp at h
    rw [if_pos (by omega)]; omega
  · split at h
    · simp at h
      rw [if_neg (by omega)]; omega
    · cases h
def hexF (a : Nat) : List UInt8 → Option Nat
  | [] => some a
  | c :: r => match hexD c with
    | some d => hexF (16 * a + d) r
    | none => none
theorem hexF_inv : ∀ (l : List UInt8) (a m : Nat), hexF a l = some m → m / 16 ^ l.length = a ∧ hexW l.length m = l
  | [], a, m, h => by
    injection h with h
    subst h
    exact ⟨by simp, rfl⟩
  | c :: r, a, m, h => by
    rw [hexF] at h
    cases hd : hexD c with
    | none => rw [hd] at h; cases h
    | some d =>
      rw [hd] at h
      have hlt := hexD_lt hd
      obtain ⟨h1, h2⟩ := hexF_inv r (16 * a + d) m h
      rw [List.length_cons, hexW, h2, h1]
      have e1 : (16 * a + d) % 16 = d := by omega
      refine ⟨?_, ?_⟩
      · rw [Nat.pow_succ, ← Nat.div_div_eq_div_mul, h1]; omega
      · rw [e1, hexD_inv hd]
theorem hexF_hexW : ∀ (k a n : Nat), hexF a (hexW k n) = some (a * 16 ^ k + n % 16 ^ k)
  | 0, a, n => by simp [hexW, hexF, Nat.mod_one]
  | k + 1, a, n => by
    rw [hexW, hexF, hexD_hxc (Nat.mod_lt _ (by decide))]
    dsimp only
    rw [hexF_hexW k, Nat.mod_pow_succ, Nat.pow_succ]
    congr 1
    rw [Nat.add_mul, Nat.mul_comm 16 a, Nat.mul_assoc, Nat.mul_comm 16 (16 ^ k), Nat.mul_comm (n / 16 ^ k % 16)]
    omega
/-- The number with eight digits. -/
def hexN (l : List UInt8) : Option Nat := if l.length = 8 then hexF 0 l else none
theorem hexN_some {l : List UInt8} {m : Nat} : hexN l = some m ↔ m < 4294967296 ∧ l = hexW 8 m := by
  unfold hexN
  constructor
  · intro h
    split at h
    · rename_i hl
      obtain ⟨h1, h2⟩ := hexF_inv l 0 m h
      rw [hl] at h1 h2
      refine ⟨?_, h2.symm⟩
      have : (16 : Nat) ^ 8 = 4294967296 := by decide
      rw [this] at h1
      omega
    · cases h
  · rintro ⟨h1, rfl⟩
    rw [if_pos (hexW_len _ _), hexF_hexW]
    have : (16 : Nat) ^ 8 = 4294967296 := by decide
    rw [this, Nat.mod_eq_of_lt h1]
    simp
/-- The reference's way, digit by digit. -/
theorem hexF_none {a : Nat} {c : UInt8} {r : List UInt8} (h : hexD c = none) : hexF a (c :: r) = none := by
  rw [hexF, h]
theorem hexF_some {a d : Nat} {c : UInt8} {r : List UInt8} (h : hexD c = some d) : hexF a (c :: r) = hexF (16 * a + d) r := by
  rw [hexF, h]

/-! The library's way: upper case too, at most 2^32 - 1. -/
def lowC (c : UInt8) : Int := bits .or .u8 (c.toNat : Int) 32
def puD (c : UInt8) : Option Nat := if 48 ≤ c.toNat ∧ c.toNat ≤ 57 then some (c.toNat - 48) else if 97 ≤ lowC c ∧ lowC c ≤ 102 then some (lowC c - 87).toNat else none
def puF (a : Nat) : List UInt8 → Option Nat
  | [] => some a
  | c :: r => match puD c with
    | some d => if 4294967295 < 16 * a + d then none else puF (16 * a + d) r
    | none => none
theorem puF_bad {a : Nat} {c : UInt8} {r : List UInt8} (h : puD c = none) : puF a (c :: r) = none := by rw [puF, h]
theorem puF_far {a d : Nat} {c : UInt8} {r : List UInt8} (h : puD c = some d) (h2 : 4294967295 < 16 * a + d) : puF a (c :: r) = none := by rw [puF, h]; exact if_pos h2
theorem puF_one {a d : Nat} {c : UInt8} {r : List UInt8} (h : puD c = some d) (h2 : 16 * a + d ≤ 4294967295) : puF a (c :: r) = puF (16 * a + d) r := by rw [puF, h]; exact if_neg (by omega)
theorem puD_low {c : UInt8} (h : ¬ (48 ≤ c.toNat ∧ c.toNat ≤ 57)) (h1 : 97 ≤ lowC c) (h2 : lowC c ≤ 102) : puD c = some (lowC c - 87).toNat := by unfold puD; rw [if_neg h, if_pos ⟨h1, h2⟩]
theorem puD_not {c : UInt8} (h : ¬ (48 ≤ c.toNat ∧ c.toNat ≤ 57)) (h1 : ¬ (97 ≤ lowC c ∧ lowC c ≤ 102)) : puD c = none := by unfold puD; rw [if_neg h, if_neg h1]
theorem puD_dig {c : UInt8} (h : 48 ≤ c.toNat ∧ c.toNat ≤ 57) : puD c = some (c.toNat - 48) := by unfold puD; rw [if_pos h]
def pu16 (l : List UInt8) : Option Nat := if l = [] then none else puF 0 l
theorem puD_hxc : ∀ d : Fin 16, puD (hxc d.1) = some d.1 := by decide
theorem puF_hexW : ∀ (k a n : Nat), a * 16 ^ k + n % 16 ^ k ≤ 4294967295 → puF a (hexW k n) = some (a * 16 ^ k + n % 16 ^ k)
  | 0, a, n, _ => by simp [hexW, puF, Nat.mod_one]
  | k + 1, a, n, h => by
    have hlt : n / 16 ^ k % 16 < 16 := Nat.mod_lt _ (by decide)
    rw [hexW, puF, puD_hxc ⟨_, hlt⟩]
    dsimp only
    have e : a * 16 ^ (k + 1) + n % 16 ^ (k + 1) = (16 * a + n / 16 ^ k % 16) * 16 ^ k + n % 16 ^ k := by
      rw [Nat.mod_pow_succ, Nat.pow_succ, Nat.add_mul, Nat.mul_comm 16 a, Nat.mul_assoc, Nat.mul_comm 16 (16 ^ k), Nat.mul_comm (n / 16 ^ k % 16)]
      omega
    rw [e] at h ⊢
    have h1 : (16 * a + n / 16 ^ k % 16) * 1 ≤ (16 * a + n / 16 ^ k % 16) * 16 ^ k := Nat.mul_le_mul_left _ (Nat.pow_pos (by decide))
    rw [if_neg (by omega)]
    exact puF_hexW k _ n h
theorem pu16_hexW {m : Nat} (h : m < 4294967296) : pu16 (hexW 8 m) = some m := by
  have h8 : (16 : Nat) ^ 8 = 4294967296 := by decide
  unfold pu16
  rw [if_neg (by rw [hexW]; exact List.cons_ne_nil _ _), puF_hexW 8 0 m (by rw [h8]; omega), h8, Nat.mod_eq_of_lt h]
  simp
theorem puF_le : ∀ (l : List UInt8) (a m : Nat), a ≤ 4294967295 → puF a l = some m → m ≤ 4294967295
  | [], a, m, ha, h => by injection h with h; omega
  | c :: r, a, m, ha, h => by
    rw [puF] at h
    cases hd : puD c with
    | none => rw [hd] at h; cases h
    | some d =>
      rw [hd] at h
      dsimp only at h
      split at h
      · cases h
      · exact puF_le r _ m (by omega) h
theorem pu16_le {l : List UInt8} {m : Nat} (h : pu16 l = some m) : m ≤ 4294967295 := by
  unfold pu16 at h
  split at h
  · cases h
  · exact puF_le l 0 m (by decide) h
/-- The bits of a number: those of all that are not numbers are the same. -/
def nb (n : Nat) : Nat := (bitsC (cl .f32 n)).toNat
def hexT (b : Nat) : ByteArray := ⟨(hexW 8 (nb b)).toArray⟩
def okH (p : ByteArray) : Bool := match hexN p.data.toList with
  | some m => nb m == m
  | none => false
def valH (p : ByteArray) : Nat := match hexN p.data.toList with
  | some m => m
  | none => 0
theorem nb_le {n : Nat} (h : n < 4294967296) : nb n < 4294967296 := by
  unfold nb
  rcases hc : cl .f32 n with _ | c
  · decide
  · obtain ⟨rfl, -⟩ := cl_some hc
    simp [bitsC]; omega
theorem nb_le' {n : Nat} (h : WfC .f32 (cl .f32 n)) : nb n < 4294967296 := by
  unfold nb
  rcases hc : cl .f32 n with _ | c
  · decide
  · have := h c hc
    have h2 : c < 4294967296 := this
    simp [bitsC]; omega
theorem nb_int (n : Nat) : bitsC (cl .f32 n) = (nb n : Int) := by
  unfold nb
  rcases hc : cl .f32 n with _ | c
  · rfl
  · simp [bitsC]
theorem hexT_inj {a : Nat} {p : ByteArray} {m : Nat} (hm : m < 4294967296) (h : hexN p.data.toList = some a) : ((hexW 8 m) = p.data.toList ↔ m = a) := by
  obtain ⟨ha, hl⟩ := hexN_some.1 h
  constructor
  · intro e
    have : hexN p.data.toList = some m := hexN_some.2 ⟨hm, e.symm⟩
    rw [this] at h
    injection h
  · rintro rfl
    exact hl.symm
theorem okH_iff {p : ByteArray} {m : Nat} (h : pu16 p.data.toList = some m) : (okH p = true ↔ hexW 8 (nb m) = p.data.toList) ∧ (okH p = true → valH p = m) := by
  have hm := pu16_le h
  cases hn : hexN p.data.toList with
  | none =>
    have h1 : okH p = false := by unfold okH; rw [hn]
    refine ⟨⟨fun e => (by rw [h1] at e; cases e), fun e => ?_⟩, fun e => (by rw [h1] at e; cases e)⟩
    have : hexN p.data.toList = some (nb m) := hexN_some.2 ⟨nb_le (by omega), e.symm⟩
    rw [this] at hn
    cases hn
  | some k =>
    obtain ⟨hk, hl⟩ := hexN_some.1 hn
    have hkm : k = m := by
      rw [hl, pu16_hexW hk] at h
      injection h
    subst hkm
    have h1 : okH p = (nb k == k) := by unfold okH; rw [hn]
    refine ⟨?_, fun _ => by unfold valH; rw [hn]⟩
    rw [h1, beq_iff_eq, hexT_inj (nb_le hk) hn]
theorem okH_bad {p : ByteArray} (h : pu16 p.data.toList = none) : okH p = false := by
  cases hn : hexN p.data.toList with
  | none => unfold okH; rw [hn]
  | some k =>
    obtain ⟨hk, hl⟩ := hexN_some.1 hn
    rw [hl, pu16_hexW hk] at h
    cases h
theorem hexT_data (b : Nat) : (hexT b).data.toList = hexW 8 (nb b) := rfl
theorem hexT_size (b : Nat) : (hexT b).size = 8 := by
  show (hexW 8 (nb b)).toArray.size = 8
  rw [List.size_toArray, hexW_len]
theorem hexN_len {l : List UInt8} (h : l.length ≠ 8) : hexN l = none := if_neg h
theorem okH_size {p : ByteArray} (h : p.size ≠ 8) : okH p = false := by
  unfold okH
  rw [hexN_len (by simpa using h)]
theorem valH_lt (p : ByteArray) : valH p < 4294967296 := by
  unfold valH
  split
  · rename_i m h
    exact (hexN_some.1 h).1
  · decide
theorem and15_u64 (x : Nat) (hx : x < 18446744073709551616) : bits .and .u64 (x : Int) 15 = ((x % 16 : Nat) : Int) := by
  have h := bits_and_nat .u64 x 15 hx (by decide)
  have e : x &&& 15 = x % 16 := Nat.and_two_pow_sub_one_eq_mod x 4
  rw [e] at h
  have e2 : ((15 : Nat) : Int) = 15 := rfl
  rw [e2] at h
  rw [h, IntKind.wrap_u64]
  omega
theorem and15_i64 (x : Nat) (hx : x < 18446744073709551616) : bits .and .i64 (x : Int) 15 = ((x % 16 : Nat) : Int) := by
  have h := bits_and_nat .i64 x 15 hx (by decide)
  have e : x &&& 15 = x % 16 := Nat.and_two_pow_sub_one_eq_mod x 4
  rw [e] at h
  have e2 : ((15 : Nat) : Int) = 15 := rfl
  rw [e2] at h
  rw [h, IntKind.wrap_i64]
  omega
theorem dig36 (D : Nat) (h : D < 16) (hs : D < (ByteArray.mk (List.toArray (48 :: 49 :: 50 :: 51 :: 52 :: 53 :: 54 :: 55 :: 56 :: 57 :: 97 :: 98 :: 99 :: 100 :: 101 :: 102 :: 103 :: 104 :: 105 :: 106 :: 107 :: 108 :: 109 :: 110 :: 111 :: 112 :: 113 :: 114 :: 115 :: 116 :: 117 :: 118 :: 119 :: 120 :: 121 :: 122 :: []))).size) : (ByteArray.mk (List.toArray (48 :: 49 :: 50 :: 51 :: 52 :: 53 :: 54 :: 55 :: 56 :: 57 :: 97 :: 98 :: 99 :: 100 :: 101 :: 102 :: 103 :: 104 :: 105 :: 106 :: 107 :: 108 :: 109 :: 110 :: 111 :: 112 :: 113 :: 114 :: 115 :: 116 :: 117 :: 118 :: 119 :: 120 :: 121 :: 122 :: [])))[D]'hs = hxc D := by
  have key : ∀ d : Fin 16, #[(48 : UInt8), 49, 50, 51, 52, 53, 54, 55, 56, 57, 97, 98, 99, 100, 101, 102, 103, 104, 105, 106, 107, 108, 109, 110, 111, 112, 113, 114, 115, 116, 117, 118, 119, 120, 121, 122][d.1]? = some (hxc d.1) := by decide
  have := key ⟨D, h⟩
  exact (Array.getElem?_eq_some_iff.1 this).2
theorem dig16 (D : Nat) (h : D < 16) (hs : D < (ByteArray.mk (List.toArray (48 :: 49 :: 50 :: 51 :: 52 :: 53 :: 54 :: 55 :: 56 :: 57 :: 97 :: 98 :: 99 :: 100 :: 101 :: 102 :: []))).size) : (ByteArray.mk (List.toArray (48 :: 49 :: 50 :: 51 :: 52 :: 53 :: 54 :: 55 :: 56 :: 57 :: 97 :: 98 :: 99 :: 100 :: 101 :: 102 :: [])))[D]'hs = hxc D := by
  have key : ∀ d : Fin 16, #[(48 : UInt8), 49, 50, 51, 52, 53, 54, 55, 56, 57, 97, 98, 99, 100, 101, 102][d.1]? = some (hxc d.1) := by decide
  have := key ⟨D, h⟩
  exact (Array.getElem?_eq_some_iff.1 this).2
theorem hexW_get : ∀ (k n j : Nat), j < k → (hexW k n)[j]? = some (hxc (n / 16 ^ (k - 1 - j) % 16))
  | 0, _, _, h => absurd h (Nat.not_lt_zero _)
  | k + 1, n, 0, _ => by rw [hexW]; simp
  | k + 1, n, j + 1, h => by
    rw [hexW, List.getElem?_cons_succ, hexW_get k n j (by omega), show k + 1 - 1 - (j + 1) = k - 1 - j by omega]
def hxV (n i j : Nat) : Value := if j < i then .int .u8 0 else .int .u8 ((hxc (n / 16 ^ (64 - j) % 16)).toNat : Int)
theorem hxV_set (n i j D : Nat) (h : D = n / 16 ^ (64 - i) % 16) : (if j = i then Value.int .u8 ((hxc D).toNat : Int) else hxV n (i + 1) j) = hxV n i j := by
  subst h
  unfold hxV
  by_cases e : j = i
  · subst e; simp
  · rw [if_neg e]
    by_cases h1 : j < i
    · rw [if_pos h1, if_pos (by omega)]
    · rw [if_neg h1, if_neg (by omega)]
/-! Texts of lists, with a comma between their parts. -/
def wsG (T : Nat → List UInt8) (k : Nat) : List ByteArray := (List.range k).map fun j => ⟨(T j).toArray⟩
theorem wsG_len (T : Nat → List UInt8) (k : Nat) : (wsG T k).length = k := by simp [wsG]
theorem wsG_snoc (T : Nat → List UInt8) (k : Nat) : wsG T (k + 1) = wsG T k ++ [⟨(T k).toArray⟩] := by
  unfold wsG
  rw [List.range_succ, List.map_append]
  rfl
def txtG (T : Nat → List UInt8) : Nat → List UInt8
  | 0 => []
  | k + 1 => if k = 0 then T 0 else txtG T k ++ (44 :: T k)
theorem txtG_one (T : Nat → List UInt8) : txtG T 1 = T 0 := if_pos rfl
theorem txtG_more (T : Nat → List UInt8) {k : Nat} (h : 1 ≤ k) : txtG T (k + 1) = txtG T k ++ (44 :: T k) := if_neg (by omega)
theorem join_wsG (T : Nat → List UInt8) : ∀ k, Lib.join ((wsG T k).map (·.data.toList)) [44] = txtG T k
  | 0 => rfl
  | k + 1 => by
    rw [wsG_snoc, List.map_append, txtG]
    rcases Nat.eq_zero_or_pos k with rfl | hk
    · rw [if_pos rfl]
      exact Lib.join_one _ _
    · rw [if_neg (by omega), ← join_wsG T k]
      refine join_snoc _ _ _ ?_
      intro e
      have := congrArg List.length e
      simp [wsG_len] at this
      omega
theorem txtG_len (T : Nat → List UInt8) (m : Nat) : ∀ k, (∀ j, j < k → (T j).length ≤ m) → (txtG T k).length ≤ (m + 1) * k
  | 0, _ => Nat.zero_le _
  | k + 1, h => by
    rw [txtG, Nat.mul_add, Nat.mul_one]
    split
    · have := h 0 (by omega); omega
    · have h1 := txtG_len T m k (fun j hj => h j (by omega))
      have h2 := h k (by omega)
      rw [List.length_append, List.length_cons]
      omega
def textG (T : Nat → List UInt8) (len : Nat) : ByteArray := if len = 0 then noneB else ⟨(txtG T len).toArray⟩
def hexZ (Z : Nat → Nat) (j : Nat) : List UInt8 := hexW 8 (nb (Z j))
def deb64 : List Int := [0, 1, 56, 2, 57, 49, 28, 3, 61, 58, 42, 50, 38, 29, 17, 4, 62, 47, 59, 36, 45, 43, 51, 22, 53, 39, 33, 30, 24, 18, 12, 5, 63, 55, 48, 27, 60, 41, 37, 16, 46, 35, 44, 21, 52, 32, 23, 11, 54, 26, 40, 15, 34, 20, 31, 10, 25, 14, 19, 9, 13, 8, 7, 6]
theorem SlF.lt {w : World} {a : Option Addr} {len cap : Nat} {zs : List Nat} (h : IsFloats w a len cap zs) (j : Nat) : zs.getD j 0 < 4294967296 := by
  have h0 : ∀ n ∈ zs, n < 2 ^ 32 := by
    rcases h with ⟨rfl, rfl, rfl, rfl⟩ | ⟨x, rfl, hl, hm, hz, hc, hb⟩
    · intro n hn; simp at hn
    · exact hb
  rcases Nat.lt_or_ge j zs.length with h1 | h1
  · have := h0 zs[j] (List.getElem_mem h1)
    simp [List.getD, List.getElem?_eq_getElem h1]
    omega
  · simp [List.getD, List.getElem?_eq_none h1]
end Go.Fl
