/- Numbers: widening and back; flushing; texts of lists read back. -/
import Derived.Test.YthcgbpidnaimmaaGreatDoorSrc
import Derived.Test.YthcgbpidnaimmaaGreatDoorTur
namespace Go.Fl
open Ieee Go.RowKit Go.Deep

theorem back_fin {r : Nat} (s : Bool) (h : r < Ieee.single.infRung) : FloatKind.f32.format.write (FloatKind.f64.format.read (FloatKind.f64.format.word s (up r))) = FloatKind.f32.format.word s r := by
  obtain ⟨hv, hi⟩ := up_val h
  obtain ⟨m, p, e, h1, h2⟩ := read_of_word s hi
  rw [e]
  show FloatKind.f32.format.nearest s m p = _
  rw [nearest_eq]
  congr 1
  refine near_exact FloatKind.f32.format (base := FloatKind.f64.format.leastPlace) h1 (by decide) (Nat.le_of_lt h) ?_
  rw [h2]
  show val Ieee.double (up r) = _
  rw [hv]
  have : (FloatKind.f32.format.leastPlace - FloatKind.f64.format.leastPlace).toNat = lift := by decide
  rw [this]
  rfl
/-- A number is the same, widened and narrowed again. -/
theorem narrow_widen (c : Option Nat) (hc : ∀ b, c = some b → cl .f32 b = some b) (hw : WfC .f32 c) : fits (widen c) = true ∧ narrow (widen c) = c := by
  rcases c with _ | b
  · exact ⟨rfl, rfl⟩
  have hb := hc b rfl
  have hlt : b < 2 * FloatKind.f32.format.signWeight := by
    have := hw b rfl
    have e : 2 * FloatKind.f32.format.signWeight = 2 ^ FloatKind.f32.format.width := by decide
    omega
  rw [widen_some hb]
  rcases Nat.lt_or_eq_of_le (rung_le hb) with h | h
  · have hk := back_fin (sgn FloatKind.f32.format b) h
    constructor
    · unfold fits
      obtain ⟨m, p, e, -, -⟩ := read_of_word (sgn FloatKind.f32.format b) (up_val h).2
      rw [e] at hk
      simp only [e, hk]
      rw [read_fin_word .f32 _ h]; rfl
    · show some _ = some _
      rw [hk, word_sgn _ _ hlt]
  · have e1 : up (rung FloatKind.f32.format b) = Ieee.double.infRung := by rw [h]; exact up_inf
    rw [e1]
    have hw2 := sgn_word .f64 (sgn FloatKind.f32.format b) (r := FloatKind.f64.format.infRung) (Nat.le_refl _)
    have e2 : FloatKind.f64.format.read (FloatKind.f64.format.word (sgn FloatKind.f32.format b) Ieee.double.infRung) = .infinity (sgn FloatKind.f32.format b) := by
      have := read_inf FloatKind.f64.format (b := FloatKind.f64.format.word (sgn FloatKind.f32.format b) FloatKind.f64.format.infRung) (by decide) hw2.2
      rw [hw2.1] at this
      exact this
    constructor
    · unfold fits
      simp only [e2]
    · show some (FloatKind.f32.format.write _) = some b
      rw [e2]
      show some (FloatKind.f32.format.word (sgn FloatKind.f32.format b) FloatKind.f32.format.infRung) = some b
      rw [← h, word_sgn _ _ hlt]
theorem narrow_widen_cl {b : Nat} (hw : WfC .f32 (cl .f32 b)) : fits (widen (cl .f32 b)) = true ∧ narrow (widen (cl .f32 b)) = cl .f32 b :=
  narrow_widen _ (fun _ h => cl_idem h) hw

/-- A flushed number is not subnormal, and the same but where it was. -/
theorem flush_sub (c : Option Nat) (hc : ∀ b, c = some b → cl .f32 b = some b) : subC (flushC c) = false := by
  rcases c with _ | b
  · rfl
  by_cases h : rung FloatKind.f32.format b < 2 ^ 23
  · rw [flushC_sub h, subC_zero]
    rw [rung32, Nat.mul_mod_left]
  · rw [flushC_not h, subC_false h]
theorem flush_same (c : Option Nat) (hw : WfC .f32 c) : decide (c = flushC c) = !subC c := by
  rcases c with _ | b
  · rfl
  have hb : b < 2 ^ 32 := hw b rfl
  by_cases h : rung FloatKind.f32.format b < 2 ^ 23
  · rw [flushC_sub h]
    by_cases h0 : rung FloatKind.f32.format b = 0
    · rw [subC_zero h0]
      have := flushC_zero h0
      rw [flushC_sub h] at this
      rw [this]; simp
    · rw [subC_true h0 h]
      refine decide_eq_false fun e => h0 ?_
      injection e with e
      rw [e, rung32, Nat.mul_mod_left]
  · rw [flushC_not h, subC_false h]; simp
theorem flush_wf {c : Option Nat} (hw : WfC .f32 c) : WfC .f32 (flushC c) := by
  rcases c with _ | b
  · exact hw
  have hb : b < 2 ^ 32 := hw b rfl
  intro x hx
  show x < 2 ^ 32
  by_cases h : rung FloatKind.f32.format b < 2 ^ 23
  · rw [flushC_sub h] at hx
    injection hx with hx
    omega
  · rw [flushC_not h] at hx
    injection hx with hx
    omega

/-! The text of a list, cut at its commas. -/
theorem cutL_ne : ∀ l, cutL l ≠ []
  | [] => by simp [cutL]
  | c :: r => by
    rw [cutL]
    split
    · simp
    · split <;> simp
theorem cutL_app : ∀ (l b : List UInt8), cutL (l ++ 44 :: b) = cutL l ++ cutL b
  | [], b => by
    rw [List.nil_append]
    conv => lhs; rw [cutL, if_pos rfl]
    rfl
  | c :: r, b => by
    have ih := cutL_app r b
    rw [List.cons_append, cutL, cutL]
    by_cases h : c = 44
    · rw [if_pos h, if_pos h, ih]; rfl
    · rw [if_neg h, if_neg h, ih]
      cases hr : cutL r with
      | nil => exact absurd hr (cutL_ne r)
      | cons p ps => rfl
theorem cutL_txt (T : Nat → List UInt8) (hT : ∀ j, ∀ c ∈ T j, c ≠ 44) : ∀ k, cutL (txtG T (k + 1)) = (List.range (k + 1)).map T
  | 0 => by
    rw [txtG_one, cutL_none _ (hT 0)]; rfl
  | k + 1 => by
    rw [txtG_more T (by omega), cutL_app, cutL_txt T hT k, cutL_none _ (hT (k + 1)), List.range_succ (n := k + 1), List.map_append]
    rfl
theorem pieces_text (T : Nat → List UInt8) (hT : ∀ j, ∀ c ∈ T j, c ≠ 44) {n : Nat} (hn : 1 ≤ n) : pieces (textG T n) = wsG T n := by
  obtain ⟨k, rfl⟩ : ∃ k, n = k + 1 := ⟨n - 1, by omega⟩
  unfold pieces textG
  rw [if_neg (by omega)]
  show (cutL (txtG T (k + 1))).map _ = _
  rw [cutL_txt T hT k]
  unfold wsG
  rw [List.map_map]
  rfl
theorem hxc_comma : ∀ d : Fin 16, hxc d.1 ≠ 44 := by decide
theorem hexW_comma : ∀ (k n : Nat), ∀ c ∈ hexW k n, c ≠ 44
  | 0, _, c, h => by simp [hexW] at h
  | k + 1, n, c, h => by
    rw [hexW] at h
    rcases List.mem_cons.1 h with rfl | h
    · exact hxc_comma ⟨_, Nat.mod_lt _ (by decide)⟩
    · exact hexW_comma k n c h
theorem txtG_first (T : Nat → List UInt8) : ∀ k, ∃ l, txtG T (k + 1) = T 0 ++ l
  | 0 => ⟨[], by rw [txtG_one, List.append_nil]⟩
  | k + 1 => by
    obtain ⟨l, hl⟩ := txtG_first T k
    exact ⟨l ++ 44 :: T (k + 1), by rw [txtG_more T (by omega), hl, List.append_assoc]⟩
theorem isNone_text (T : Nat → List UInt8) (hT : 5 ≤ (T 0).length) {n : Nat} (hn : 1 ≤ n) : isNone (textG T n) = false := by
  obtain ⟨k, rfl⟩ : ∃ k, n = k + 1 := ⟨n - 1, by omega⟩
  obtain ⟨l, hl⟩ := txtG_first T k
  unfold isNone textG
  rw [if_neg (by omega)]
  show (txtG T (k + 1) == _) = false
  rw [beq_eq_false_iff_ne, hl]
  intro e
  have := congrArg List.length e
  simp at this
  omega
theorem isNone_none (T : Nat → List UInt8) : isNone (textG T 0) = true := by
  unfold textG
  rw [if_pos rfl]
  decide
theorem textG_size (T : Nat → List UInt8) (m n : Nat) (h : ∀ j, (T j).length ≤ m) : (textG T n).size ≤ (m + 1) * n + 4 := by
  unfold textG
  split
  · have : noneB.size = 4 := by decide
    omega
  · have := txtG_len T m n (fun j _ => h j)
    show (txtG T n).toArray.size ≤ _
    rw [List.size_toArray]
    omega
/-- The text of numbers is read back. -/
theorem read_text (Z : Nat → Nat) (hZ : ∀ j, WfC .f32 (cl .f32 (Z j))) {n : Nat} (hn : n ≤ 256) :
    gOk okH (textG (hexZ Z) n) = true ∧ (gV fH (textG (hexZ Z) n)).length = n ∧ ∀ j, j < n → zH (textG (hexZ Z) n) j = nb (Z j) := by
  rcases Nat.eq_zero_or_pos n with rfl | h1
  · have h := isNone_none (hexZ Z)
    exact ⟨gOk_none h, by rw [gV_none h]; rfl, fun j hj => absurd hj (Nat.not_lt_zero _)⟩
  · have h := isNone_text (hexZ Z) (by unfold hexZ; rw [hexW_len]; decide) h1
    have hp := pieces_text (hexZ Z) (fun j => hexW_comma 8 _) h1
    have hlen : (pieces (textG (hexZ Z) n)).length = n := by rw [hp, wsG_len]
    have hget : ∀ j p, (pieces (textG (hexZ Z) n))[j]? = some p → j < n ∧ p = hexT (Z j) := by
      intro j p hj
      rw [hp] at hj
      have hjn : j < n := by
        have := (List.getElem?_eq_some_iff.1 hj).1
        rw [wsG_len] at this
        exact this
      refine ⟨hjn, ?_⟩
      unfold wsG at hj
      rw [List.getElem?_map, List.getElem?_range hjn] at hj
      injection hj with hj
      exact hj.symm
    refine ⟨gOk_yes h (by omega) fun j p _ hj => ?_, by rw [gV_len _ _ h, hlen], fun j hj => ?_⟩
    · obtain ⟨-, rfl⟩ := hget j p hj
      exact (okH_hexT _ (hZ j)).1
    · unfold zH
      rw [h]
      have hj2 : (pieces (textG (hexZ Z) n))[j]? = some (hexT (Z j)) := by
        obtain ⟨p, hp2⟩ : ∃ p, (pieces (textG (hexZ Z) n))[j]? = some p := ⟨_, List.getElem?_eq_getElem (by omega)⟩
        rw [hp2, (hget j p hp2).2]
      simp [List.getD, List.getElem?_map, hj2, (okH_hexT _ (hZ j)).2]
theorem cl_nb {b : Nat} : cl .f32 (nb b) = cl .f32 b := by
  unfold nb
  rcases hc : cl .f32 b with _ | c
  · decide +kernel
  · obtain ⟨rfl, -⟩ := cl_some hc
    simp [bitsC, hc]
/-- A quarter of a turn. -/
theorem quarter : narrow (sinW (widen (cl .f32 1048576000))) = some 1065353216 := by decide +kernel
theorem ints_u8 {w : World} {a : Option Addr} {len cap : Nat} {zs : List Int} (h : IsInts .u8 w a len cap zs) (j : Nat) : 0 ≤ zs.getD j 0 ∧ zs.getD j 0 ≤ 255 := by
  have h0 : ∀ n ∈ zs, (Lit.int .u8 n).wf = true := by
    rcases h with ⟨rfl, rfl, rfl, rfl⟩ | ⟨x, rfl, hl, hm, hz, hc, hb⟩
    · intro n hn; simp at hn
    · exact hb
  rcases Nat.lt_or_ge j zs.length with h1 | h1
  · have := wf_u8 (h0 zs[j] (List.getElem_mem h1))
    simpa [List.getD, List.getElem?_eq_getElem h1] using this
  · simp [List.getD, List.getElem?_eq_none h1]
theorem bytes_in {w : World} {a : Option Addr} {len cap : Nat} {zs : List Int} (h : IsInts .u8 w a len cap zs) : BytesIn w a len fun j => zs.getD j 0 := ⟨SlI.of h, ints_u8 h⟩
theorem BytesIn.keep {w w' : World} {a : Option Addr} {len : Nat} {Z : Nat → Int} (h : BytesIn w a len Z) (hg : Gro w w') : BytesIn w' a len Z := ⟨h.1.keep hg, h.2⟩
theorem wf_narrow (c : Option Nat) : WfC .f32 (narrow c) := by
  intro b hb
  rcases c with _ | a
  · cases hb
  · injection hb with hb
    subst hb
    exact FloatKind.f32.format.write_lt _
theorem wf_angR (y x : Option Nat) : WfC .f32 (angR y x) := by
  unfold angR
  split
  · split
    · exact wf_cl (by decide)
    · exact wf_narrow _
  · intro b hb; cases hb

end Go.Fl
