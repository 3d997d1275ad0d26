/- Texts of complex numbers, read back. -/
import Derived.Test.YthcgbpidnaimmaaGreatDoorExa
import Derived.Test.YthcgbpidnaimmaaGreatDoorNum
namespace Go.Fl
open Ieee Go.RowKit Go.Deep

/-- The sixteen digits of a complex number. -/
def hexC (R I : Nat → Nat) (j : Nat) : List UInt8 := hexW 8 (nb (R j)) ++ hexW 8 (nb (I j))
theorem hexC_len (R I : Nat → Nat) (j : Nat) : (hexC R I j).length = 16 := by
  unfold hexC
  rw [List.length_append, hexW_len, hexW_len]
theorem hexC_comma (R I : Nat → Nat) (j : Nat) : ∀ c ∈ hexC R I j, c ≠ 44 := by
  intro c hc
  rcases List.mem_append.1 hc with h | h
  · exact hexW_comma 8 _ c h
  · exact hexW_comma 8 _ c h
theorem hexC_text (a b : Nat) : hexT a ++ hexT b = ⟨(hexW 8 (nb a) ++ hexW 8 (nb b)).toArray⟩ := by
  apply ByteArray.ext
  simp [hexT, ByteArray.data_append]
theorem hexC_size (R I : Nat → Nat) (j : Nat) : (⟨(hexC R I j).toArray⟩ : ByteArray).size = 16 := by
  show (hexC R I j).toArray.size = 16
  rw [List.size_toArray, hexC_len]
theorem hexC_fst (R I : Nat → Nat) (j : Nat) : (⟨(hexC R I j).toArray⟩ : ByteArray).extract 0 8 = hexT (R j) := by
  apply ByteArray.ext
  simp [hexT, hexC, hexW_len]
theorem hexC_snd (R I : Nat → Nat) (j : Nat) : (⟨(hexC R I j).toArray⟩ : ByteArray).extract 8 16 = hexT (I j) := by
  apply ByteArray.ext
  simp [hexT, hexC, hexW_len]
  exact List.take_of_length_le (Nat.le_of_eq (hexW_len 8 _))
/-- The text of complex numbers is read back. -/
theorem read_textC (R I : Nat → Nat) (hR : ∀ j, WfC .f32 (cl .f32 (R j))) (hI : ∀ j, WfC .f32 (cl .f32 (I j))) {n : Nat} (hn : n ≤ 256) :
    gOk okC (textG (hexC R I) n) = true ∧ (gV cH (textG (hexC R I) n)).length = n ∧ ∀ j, j < n → cR (textG (hexC R I) n) j = nb (R j) ∧ cI (textG (hexC R I) n) j = nb (I j) := by
  rcases Nat.eq_zero_or_pos n with rfl | h1
  · have h := isNone_none (hexC R I)
    exact ⟨gOk_none h, by rw [gV_none h]; rfl, fun j hj => absurd hj (Nat.not_lt_zero _)⟩
  · have h := isNone_text (hexC R I) (by rw [hexC_len]; decide) h1
    have hp := pieces_text (hexC R I) (fun j => hexC_comma R I j) h1
    have hlen : (pieces (textG (hexC R I) n)).length = n := by rw [hp, wsG_len]
    have hget : ∀ j p, (pieces (textG (hexC R I) n))[j]? = some p → j < n ∧ p = ⟨(hexC R I j).toArray⟩ := by
      intro j p hj
      rw [hp] at hj
      have hjn : j < n := by
        have := (List.getElem?_eq_some_iff.1 hj).1
        rw [wsG_len] at this
        exact this
      refine ⟨hjn, ?_⟩
      unfold wsG at hj
      rw [List.getElem?_map, List.getElem?_range hjn] at hj
      injection hj with hj
      exact hj.symm
    refine ⟨gOk_yes h (by omega) fun j p _ hj => ?_, by rw [gV_len _ _ h, hlen], fun j hj => ?_⟩
    · obtain ⟨-, rfl⟩ := hget j p hj
      rw [okC_eq (hexC_size R I j), hexC_size, hexC_fst, hexC_snd, (okH_hexT _ (hR j)).1, (okH_hexT _ (hI j)).1]
      rfl
    · have hj2 : (pieces (textG (hexC R I) n))[j]? = some ⟨(hexC R I j).toArray⟩ := by
        obtain ⟨p, hp2⟩ : ∃ p, (pieces (textG (hexC R I) n))[j]? = some p := ⟨_, List.getElem?_eq_getElem (by omega)⟩
        rw [hp2, (hget j p hp2).2]
      unfold cR cI
      rw [h]
      simp [List.getD, List.getElem?_map, hj2, hexC_size, hexC_fst, hexC_snd, (okH_hexT _ (hR j)).2, (okH_hexT _ (hI j)).2]
end Go.Fl
